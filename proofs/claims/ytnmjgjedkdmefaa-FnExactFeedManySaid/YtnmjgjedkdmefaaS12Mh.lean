/- What the functions of the program answer, for all arguments that the theorems name as conditions. -/
import Derived.Test.YtnmjgjedkdmefaaS12Ma
import Derived.Test.YtnmjgjedkdmefaaFD
import Derived.Test.YtnmjgjedkdmefaaS12Mg
set_option linter.unusedVariables false
set_option linter.unusedSimpArgs false
namespace Go.Ab
set_option maxHeartbeats 8000000
theorem l_toByteS (r : List Int) : ∀ (p : List Int) (q n : Nat), r.length < q → n = (p ++ r).length → n < 1000000000 → L_laws_toByteS 0 q 0 [frS eU8 (p ++ r), .slice (some ⟨0, 0, none⟩) n n, .int .i64 p.length] [ownB eU8 (p ++ List.replicate r.length 0)] = some (.slice (some ⟨0, 0, none⟩) n n, [ownB eU8 (p ++ r)]) := by
  induction r with
  | nil =>
    intro p q n hq hn hl
    obtain ⟨q, rfl⟩ : ∃ n, q = n + 1 := ⟨q - 1, by omega⟩
    simp -implicitDefEqProofs [L_laws_toByteS, retK_eq]
  | cons x r ih =>
    intro p q n hq hn hl
    obtain ⟨q, rfl⟩ : ∃ n, q = n + 1 := ⟨q - 1, by omega⟩
    have h := ih (p ++ [x]) q n (by simp at hq; omega) (by simpa using hn) hl
    simp at h
    have hx := ixa_mid eU8 (sz := 1) rfl .i64 p x r
    have hw := wrap_next (n := p.length) (by simp at hn; omega)
    have hn' : n = p.length + (r.length + 1) := by simpa using hn
    subst hn'
    have hy := lay_mid eU8 p 0 (List.replicate r.length 0) x
    simp at hy
    simp +contextual -implicitDefEqProofs [L_laws_toByteS, retK_eq, cutK_eq, hx, hw, h, List.replicate_succ, hy]
theorem s_toByteS (l : List Int) (hl : l.length < 1000000000) : X_laws_toByteS [frS eU8 l] [] = some (slO 0 l.length, [ownB eU8 l]) := by
  have h := l_toByteS l [] QQ l.length (by unfold QQ; omega) rfl hl
  simp at h
  simp +contextual -implicitDefEqProofs [X_laws_toByteS, cutK_eq, retK_eq, h, hl]
def elS (l : List Int) : El Int := ⟨[], .ow [] l [] 0 l.length, []⟩
def elZ : El Int := ⟨[], .no (.slice none 0 0), []⟩
@[simp] theorem elS_p (l : List Int) : (elS l).p = .ow [] l [] 0 l.length := (rfl)
theorem elS_ok (l : List Int) : (elS l).ok eU8 := ⟨rfl, rfl, fun _ => rfl⟩
theorem elZ_ok : elZ.ok eU8 := ⟨rfl, rfl, .inl rfl⟩
theorem elS_N : ∀ l : List (List Int), famN (l.map elS) = l.length
  | [] => rfl
  | x :: r => by
    rw [List.map_cons, famN, elS_N r, List.length_cons]
    show 1 + r.length = _
    omega
theorem elZ_N : ∀ n, famN (List.replicate n elZ) = 0
  | 0 => rfl
  | n + 1 => by
    rw [List.replicate_succ, famN, elZ_N n]
    rfl
theorem famX_S (k : Nat) (l : List Int) (r : List (El Int)) : famX k (elS l :: r) = slO k l.length :: famX (k + 1) r := rfl
theorem famX_Z (k : Nat) (r : List (El Int)) : famX k (elZ :: r) = .slice none 0 0 :: famX k r := rfl
theorem famX_zero_rep (k : Nat) : ∀ n, famX k (List.replicate n elZ) = List.replicate n (.slice none 0 0)
  | 0 => rfl
  | n + 1 => by rw [List.replicate_succ, famX_Z, famX_zero_rep k n, List.replicate_succ]
theorem famM_Z : ∀ n, famM eU8 (List.replicate n elZ) = []
  | 0 => rfl
  | n + 1 => by
    rw [List.replicate_succ, famM, famM_Z n]
    rfl
theorem famX_Slen (k : Nat) (l : List (List Int)) : (famX k (l.map elS)).length = l.length := by
  have := famX_len (s := 1) (l.map elS) k (fun e he => by
    obtain ⟨x, _, rfl⟩ := List.mem_map.1 he
    rfl)
  simpa using this
abbrev memS (p : List (List Int)) (n : Nat) : Mem := famB 1 1 (p.map elS ++ List.replicate n elZ) :: famM eU8 (p.map elS ++ List.replicate n elZ)
theorem ok_S (p : List (List Int)) (n : Nat) : ∀ e ∈ p.map elS ++ List.replicate n elZ, e.ok eU8 := by
  intro e he
  rcases List.mem_append.1 he with h | h
  · obtain ⟨x, _, rfl⟩ := List.mem_map.1 h
    exact elS_ok x
  · rw [List.eq_of_mem_replicate h]
    exact elZ_ok
theorem N_S (p : List (List Int)) (n : Nat) : famN (p.map elS ++ List.replicate n elZ) = p.length := by
  rw [famN_app, elS_N, elZ_N, Nat.add_zero]
theorem famM_S1 (x : List Int) : famM eU8 ([x].map elS) = [ownB eU8 x] := by
  show [ownB eU8 ([] ++ (x ++ []))] ++ [] = _
  simp
theorem lay_S (p : List (List Int)) (n : Nat) (x : List Int) : lay (famX 1 (p.map elS ++ List.replicate (n + 1) elZ)) p.length [slO (p.length + 1) x.length] = famX 1 ((p ++ [x]).map elS ++ List.replicate n elZ) := by
  rw [famX_app, elS_N, List.replicate_succ, famX_Z, List.map_append, List.append_assoc, famX_app, elS_N]
  have hl := famX_Slen 1 p
  rw [show ([x].map elS ++ List.replicate n elZ) = elS x :: List.replicate n elZ from rfl, famX_S, famX_zero_rep, famX_zero_rep, Nat.add_comm 1 p.length]
  rw [← hl]
  exact lay_one _ _ _ _
theorem famM_S (p : List (List Int)) (n : Nat) (x : List Int) : famM eU8 (p.map elS ++ List.replicate (n + 1) elZ) ++ [ownB eU8 x] = famM eU8 ((p ++ [x]).map elS ++ List.replicate n elZ) := by
  rw [famM_app, famM_Z, List.append_nil, famM_app, famM_Z, List.append_nil, List.map_append, famM_app, famM_S1]
end Go.Ab
namespace Go.Ab
set_option maxHeartbeats 8000000
end Go.Ab
namespace Go.Ab
set_option maxHeartbeats 8000000
theorem l_toByteSS (r : List (List Int)) : ∀ (p : List (List Int)) (q n : Nat), r.length < q → n = (p ++ r).length → n < 1100000 → (∀ x ∈ r, x.length < 1000000000) → L_laws_toByteSS 0 q 0 [frS eBS (p ++ r), slO 0 n, .int .i64 p.length] (memS p r.length) = some (slO 0 n, memS (p ++ r) 0) := by
  induction r with
  | nil =>
    intro p q n hq hn hl hb
    obtain ⟨q, rfl⟩ : ∃ n, q = n + 1 := ⟨q - 1, by omega⟩
    have hn' : n = p.length := by simpa using hn
    subst hn'
    have hret := fun pv => ret0_fam eU8 (s := 1) (n := p.length) (c := p.length) (es := p.map elS ++ List.replicate 0 elZ) (pv := pv) (ok_S p 0) (by rw [N_S]; omega)
    rw [List.append_nil]
    show L_laws_toByteSS 0 (q + 1) 0 [frS eBS p, slO 0 p.length, .int .i64 p.length] (memS p 0) = some (slO 0 p.length, memS p 0)
    generalize hM : memS p 0 = M
    have hret : ∀ pv, retK 0 M pv (slO 0 p.length) = some (slO 0 p.length, M) := by rw [← hM]; exact hret
    simp -implicitDefEqProofs [L_laws_toByteSS, hret]
  | cons x r ih =>
    intro p q n hq hn hl hb
    obtain ⟨q, rfl⟩ : ∃ n, q = n + 1 := ⟨q - 1, by omega⟩
    have hn' : n = p.length + (r.length + 1) := by simpa using hn
    have h := ih (p ++ [x]) q n (by simp at hq; omega) (by simpa using hn) hl (fun y hy => hb y (by simp [hy]))
    have hx := ixa_mid eBS (sz := 1) rfl .i64 p x r
    have hw := wrap_next (n := p.length) (by omega)
    have hc := s_toByteS x (hb x (by simp))
    have hz := fun n' o cc => ixa_sl (sz := 1) .i64 (n := n') (o := o) (len := n) (c := cc) (j := (p.length : Int)) (by omega) (by omega)
    simp only [Int.toNat_natCast] at hz
    have hFl : (famM eU8 (p.map elS ++ List.replicate (r.length + 1) elZ)).length = p.length := by rw [famM_len, N_S]
    have hC : (famX 1 (p.map elS ++ List.replicate (r.length + 1) elZ)).length = p.length + (r.length + 1) := by
      rw [famX_app, List.length_append, famX_Slen, famX_zero_rep, List.length_replicate]
    have hF := famM_S p r.length x
    have hlay := lay_S p r.length x
    have hcut := fun pv J => cut0_fam eU8 (s := 1) (n := n) (c := n) (es := (p ++ [x]).map elS ++ List.replicate r.length elZ) (xs := [frS eBS (p ++ x :: r)]) (ys := [.int .i64 ((p.length : Int) + 1)]) (pv := pv) (J := J) rfl rfl (ok_S (p ++ [x]) r.length) (by rw [N_S]; simp; omega)
    have e1 : p ++ [x] ++ r = p ++ x :: r := by simp
    have e2 : ((p ++ [x]).length : Int) = p.length + 1 := by simp
    rw [e1, e2] at h
    simp only [memS, famB] at h hcut ⊢
    simp only [List.singleton_append] at hcut
    rw [List.length_cons]
    generalize famM eU8 (p.map elS ++ List.replicate (r.length + 1) elZ) = F1 at *
    generalize famX 1 (p.map elS ++ List.replicate (r.length + 1) elZ) = C at *
    generalize famM eU8 ((p ++ [x]).map elS ++ List.replicate r.length elZ) = F2 at *
    generalize famX 1 ((p ++ [x]).map elS ++ List.replicate r.length elZ) = C2 at *
    have g1 : (p.length : Int) < p.length + (r.length + 1) := by omega
    have g2 : p.length + 1 ≤ p.length + (r.length + 1) := by omega
    simp (maxSteps := 400000) -implicitDefEqProofs [L_laws_toByteSS, hx, hw, hc, hz, hFl, hC, g1, g2, hlay, hF, hcut, h]
end Go.Ab
namespace Go.Ab
set_option maxHeartbeats 8000000
theorem flat_nil (n : Nat) : (List.replicate n [Value.slice none 0 0]).flatten = List.replicate n (.slice none 0 0) := by
  induction n with
  | zero => rfl
  | succ n ih => rw [List.replicate_succ, List.flatten_cons, ih, List.replicate_succ]; rfl
end Go.Ab
namespace Go.Ab
set_option maxHeartbeats 8000000
abbrev memA (k : Nat) (l : List (List Int)) : Mem := famB k 1 (l.map elS) :: famM eU8 (l.map elS)
theorem memS_0 (l : List (List Int)) : memS l 0 = memA 1 l := by
  unfold memS
  rw [List.replicate_zero, List.append_nil]
theorem s_toByteSS (l : List (List Int)) (hl : l.length < 1100000) (hb : ∀ x ∈ l, x.length < 1000000000) : X_laws_toByteSS [frS eBS l] [] = some (slO 0 l.length, memS l 0) := by
  have h := l_toByteSS l [] QQ l.length (by unfold QQ; omega) rfl hl hb
  have hcut := fun pv J => cut0_fam eU8 (s := 1) (n := l.length) (c := l.length) (es := [].map elS ++ List.replicate l.length elZ) (xs := [frS eBS l]) (ys := [.int .i64 0]) (pv := pv) (J := J) rfl rfl (ok_S [] l.length) (by rw [N_S]; simp)
  simp only [memS, famB, List.map_nil, List.nil_append, famX_zero_rep, famM_Z, List.singleton_append, List.length_nil, Int.natCast_zero] at h hcut
  have hf := flat_nil l.length
  simp at h
  rw [memS_0]
  simp (maxSteps := 400000) -implicitDefEqProofs [X_laws_toByteSS, hf, hcut, hl, show l.length < 1000000000 by omega]
  exact h
theorem ok_A (l : List (List Int)) : ∀ e ∈ l.map elS, e.ok eU8 := by
  have := ok_S l 0
  rwa [List.replicate_zero, List.append_nil] at this
theorem okH_A (l : List (List Int)) : ∀ e ∈ l.map elS, e.okH := by
  intro e he
  obtain ⟨x, _, rfl⟩ := List.mem_map.1 he
  exact ⟨rfl, rfl⟩
theorem f_toByteSS (l : List (List Int)) (hl : l.length < 1100000) (hb : ∀ x ∈ l, x.length < 1000000000) (m : Mem) : fcall X_laws_toByteSS [frS eBS l] m = some (slO m.length l.length, m ++ memA (m.length + 1) l) := by
  have h := s_toByteSS l hl hb
  rw [memS_0] at h
  exact fcall_fam eU8 eU8_hard (by rfl) h (ok_A l) (okH_A l)
end Go.Ab
namespace Go.Ab
set_option maxHeartbeats 4000000
theorem s_toLine (l : LnT) (hl : l.rows.length < 1100000) (hb : ∀ x ∈ l.rows, x.length < 1000000000) (hc : l.cur.length < 1000000000) : X_laws_toLine [lnV l] [] = some (.agg #[slO 0 l.rows.length, slO 1 l.cur.length, .bool l.t, .int .i64 l.n], famB 2 1 (l.rows.map elS) :: ownB eU8 l.cur :: famM eU8 (l.rows.map elS)) := by
  have c1 := s_toByteSS l.rows (by omega) hb
  rw [memS_0] at c1
  have c2 := s_toByteS l.cur hc
  have fS : ∀ b0 b1 b2, fcall X_laws_toByteSS [frS eBS l.rows] [b0, b1, b2] = some (slO 3 l.rows.length, b0 :: b1 :: b2 :: memA 4 l.rows) := by
    intro b0 b1 b2
    exact f_toByteSS l.rows (by omega) hb [b0, b1, b2]
  have fT : ∀ mm, fcall X_laws_toByteS [frS eU8 l.cur] mm = some (slO mm.length l.cur.length, mm ++ [ownB eU8 l.cur]) := by
    intro mm
    simp [c2]
  have hN : famN (l.rows.map elS) = l.rows.length := elS_N l.rows
  have hok : ∀ e ∈ l.rows.map elS, e.ok eU8 := by
    intro e he
    obtain ⟨x, _, rfl⟩ := List.mem_map.1 he
    exact elS_ok x
  have hF : (famM eU8 (l.rows.map elS)).length = famN (l.rows.map elS) := famM_len eU8 _
  have hret : ∀ (b0 b1 b2 : Blk) pv, retK 0 (b0 :: b1 :: b2 :: famB 4 1 (l.rows.map elS) :: (famM eU8 (l.rows.map elS) ++ [ownB eU8 l.cur])) pv (.agg #[slO 3 l.rows.length, slO (famN (l.rows.map elS) + 1 + 1 + 1 + 1) l.cur.length, .bool l.t, .int .i64 l.n]) = some (.agg #[slO 0 l.rows.length, slO 1 l.cur.length, .bool l.t, .int .i64 l.n], famB 2 1 (l.rows.map elS) :: ownB eU8 l.cur :: famM eU8 (l.rows.map elS)) := by
    intro b0 b1 b2 pv
    have H : Fam eU8 (b0 :: b1 :: b2 :: famB 4 1 (l.rows.map elS) :: (famM eU8 (l.rows.map elS) ++ [ownB eU8 l.cur])) 3 1 (List.range' 4 (famN (l.rows.map elS))) (l.rows.map elS) := Fam.of_row eU8 rfl (fun i x h => by
      have := in_row [b0, b1, b2, famB 4 1 (l.rows.map elS)] (famM eU8 (l.rows.map elS)) [ownB eU8 l.cur] (b := 4) (k := i + 1) (i := i) (n := 4 + i) rfl (by rw [List.getElem?_range' (by omega)]; simp) h
      exact this) (by omega) hok
    have hy := at_row [b0, b1, b2, famB 4 1 (l.rows.map elS)] (famM eU8 (l.rows.map elS)) [ownB eU8 l.cur] (n := famN (l.rows.map elS) + 1 + 1 + 1 + 1) (j := 0) (by simp [hF]; omega) rfl
    obtain ⟨c1, c2⟩ := H.can1y eU8 eU8 (y := famN (l.rows.map elS) + 1 + 1 + 1 + 1) (l := l.cur) hy (by
      refine List.nodup_cons.2 ⟨fun h => ?_, List.nodup_cons.2 ⟨fun h => ?_, List.nodup_range'⟩⟩
      · rcases List.mem_cons.1 h with h | h
        · omega
        · rw [mem_range'] at h; omega
      · rw [mem_range'] at h; omega) (by simp; omega)
    exact ret_of c1 c2 (by simp) (by simp)
  simp (maxSteps := 400000) -implicitDefEqProofs [-fcall_eq, -rcall_eq, X_laws_toLine, fS, fT, hret]
end Go.Ab
namespace Go.Ab
set_option maxHeartbeats 4000000
abbrev tlW (k : Nat) (l : LnT) : Value := .agg #[slO k l.rows.length, slO (k + 1) l.cur.length, .bool l.t, .int .i64 l.n]
abbrev tlM (l : LnT) : Mem := famB 2 1 (l.rows.map elS) :: ownB eU8 l.cur :: famM eU8 (l.rows.map elS)
theorem ok_S1 (l : List (List Int)) : ∀ e ∈ l.map elS, e.ok eU8 := by
  intro e he
  obtain ⟨x, _, rfl⟩ := List.mem_map.1 he
  exact elS_ok x
theorem can_tl (l : LnT) (hl : l.rows.length < 1100000) : Can (tlW 0 l) (tlM l) := by
  have hN : famN (l.rows.map elS) = l.rows.length := elS_N l.rows
  have hlen : (tlM l).length = famN (l.rows.map elS) + 1 + 1 := by simp
  have H : Fam eU8 (tlM l) 0 1 (List.range' 2 (famN (l.rows.map elS))) (l.rows.map elS) := Fam.of_row eU8 rfl (fun i x h => by
    rw [show 2 + i = i + 1 + 1 by omega]
    exact h) (by omega) (ok_S1 _)
  obtain ⟨h1, h2⟩ := H.can1y eU8 eU8 (y := 1) (l := l.cur) rfl (by
    refine List.nodup_cons.2 ⟨fun h => ?_, List.nodup_cons.2 ⟨fun h => ?_, List.nodup_range'⟩⟩
    · rcases List.mem_cons.1 h with h | h
      · omega
      · rw [mem_range'] at h; omega
    · rw [mem_range'] at h; omega) (by simp; omega)
  have e : (0 :: 1 :: List.range' 2 (famN (l.rows.map elS))) = List.range (tlM l).length := by
    rw [hlen, List.range_eq_range', List.range'_succ, List.range'_succ]
  rw [e] at h1 h2
  exact has_of (by simpa using h1) h2 (by rw [← e]; simp)
theorem hd_tl (l : LnT) : HdM (tlM l) := by
  intro N
  refine mapB_mk fun i b hb => ?_
  have hm := List.mem_of_getElem? hb
  have hlen : (tlM l).length = famN (l.rows.map elS) + 1 + 1 := by simp
  rcases List.mem_cons.1 hm with rfl | hm
  · have hr := fam_rnH eU8 (j := 7) (π := sft N (tlM l).length) (l.rows.map elS) 2 (N + 2) (ok_S1 _) (okH_A l.rows) (fun i hi => by unfold sft; rw [if_pos (by omega)]; congr 1; omega)
    unfold shB famB
    rw [if_pos ⟨rfl, rfl⟩]
    split
    · exact ⟨_, rfl⟩
    · exact ⟨_, by rw [hr]; rfl⟩
  · rcases List.mem_cons.1 hm with rfl | hm
    · exact ⟨_, shB_own eU8 eU8_hard _ _ l.cur⟩
    · obtain ⟨j, hj, rfl⟩ := List.getElem_of_mem hm
      obtain ⟨x, e⟩ := fam_own eU8 (l.rows.map elS) j _ (List.getElem?_eq_getElem hj)
      rw [e]
      exact ⟨_, shB_own eU8 eU8_hard _ _ x⟩
theorem rn_tl (l : LnT) (N : Nat) : rnV 8 hard (sft N (tlM l).length) (tlW 0 l) = some (tlW N l) := by
  have hlen : (tlM l).length = famN (l.rows.map elS) + 2 := by simp
  rw [hlen]
  have h1 : 1 < famN (l.rows.map elS) + 2 := by omega
  generalize famN (l.rows.map elS) + 2 = LL at *
  have h0 : 0 < LL := by omega
  simp [h0, h1]
end Go.Ab
namespace Go.Ab
set_option maxHeartbeats 4000000
theorem fro_S (r : List (List Int)) : (r.map elS).flatMap (El.fro eU8) = cellsE eBS r := by
  induction r with
  | nil => rfl
  | cons x r ih =>
    have e : El.fro eU8 (elS x) = [frS eU8 x] := rfl
    rw [List.map_cons, List.flatMap_cons, e, ih, cellsE_cons]
    rfl
theorem fz_tl (l : LnT) : fz 64 (tlM l) (tlW 0 l) = some (lnV l) := by
  have f1 : fz 63 (tlM l) (slO 0 l.rows.length) = some (frS eBS l.rows) := by
    have := fz_partF (k := 60) (c := l.rows.length) (j := 0) (b := 2) (mm := tlM l) (P := [famB 2 1 (l.rows.map elS), ownB eU8 l.cur]) (Q := []) (L := []) (R := l.rows.map elS) rfl (by simp) (by simp [famN]) (ok_S1 _) (by simp) (fun e he => by
      obtain ⟨x, _, rfl⟩ := List.mem_map.1 he
      rfl)
    rw [List.length_map, fro_S] at this
    exact this
  have f2 : fz 63 (tlM l) (slO 1 l.cur.length) = some (frS eU8 l.cur) := by simp
  rw [fz_agg]
  simp only [mapO, f1, f2]
  rfl
theorem fz_ln (l : LnT) (m : Mem) : fz 64 m (lnV l) = some (lnV l) := by simp
theorem n_toLine (l : LnT) (hl : l.rows.length < 1100000) (hb : ∀ x ∈ l.rows, x.length < 1000000000) (hc : l.cur.length < 1000000000) (m : Mem) : ∃ k m', k = m.length ∧ fcall X_laws_toLine [lnV l] m = some (tlW k l, m') ∧ m'.length = m.length + (tlM l).length ∧ (∀ n, n < m.length → m'[n]? = m[n]?) ∧ Has m' (tlW k l) (List.range' k (tlM l).length) (tlW 0 l) (tlM l) :=
  Has.new (X := X_laws_toLine) (fr := [lnV l]) (F := fun k => tlW k l) (mapO1 (fz_ln l m)) (s_toLine l hl hb hc) (can_tl l hl) (hd_tl l) (fun N => rn_tl l N)
end Go.Ab
namespace Go.Ab
set_option maxHeartbeats 8000000
theorem s_szByteS (l : List Int) (left : Int) (hl : l.length ≤ 9223372036854775807) (h0 : 0 ≤ left) (h1 : left ≤ 1048576) : X_laws_szByteS [frS eU8 l, .int .i64 left] [] = some (.int .i64 (szN l.length left), []) := by
  have hw : IntKind.i64.wrap (left - l.length) = left - l.length := wrap_i64 (by omega) (by omega)
  simp +contextual -implicitDefEqProofs [X_laws_szByteS, retK_eq, hw]
  unfold szN
  split <;> rfl
def szL : List Nat → Int → Int
  | [], left => left
  | n :: r, left => if szN n left < 0 then -1 else szL r (szN n left)
end Go.Ab
namespace Go.Ab
set_option maxHeartbeats 8000000
def markB (t : Int) : Nat → List Int
  | 0 => []
  | n + 1 => IntKind.u8.wrap t :: markB (t + 1) n
@[simp] theorem markB_len (t : Int) (n : Nat) : (markB t n).length = n := by
  induction n generalizing t with
  | zero => rfl
  | succ n ih => simp [markB, ih]
theorem l_markByteS (r : List Int) : ∀ (p : List Int) (t : Int) (q n : Nat), r.length < q → n = (p ++ r).length → n < 1000000000 → 0 ≤ t → t + r.length ≤ 1000000000000 → L_laws_markByteS 1 q 0 [slO 0 n, .int .i64 t, .int .i64 p.length] [ownB eU8 (p ++ r)] = some (.int .i64 (t + r.length), [ownB eU8 (p ++ markB t r.length)]) := by
  induction r with
  | nil =>
    intro p t q n hq hn hl h0 h1
    obtain ⟨q, rfl⟩ : ∃ n, q = n + 1 := ⟨q - 1, by omega⟩
    subst hn
    simp -implicitDefEqProofs [L_laws_markByteS, retK_eq, markB]
  | cons x r ih =>
    intro p t q n hq hn hl h0 h1
    obtain ⟨q, rfl⟩ : ∃ n, q = n + 1 := ⟨q - 1, by omega⟩
    simp only [List.length_cons] at h1
    have h := ih (p ++ [IntKind.u8.wrap t]) (t + 1) q n (by simp at hq; omega) (by simpa using hn) hl (by omega) (by push_cast at h1; omega)
    simp at h
    have hw := wrap_next (n := p.length) (by simp at hn; omega)
    have hw2 := wrap_one h0 (by omega)
    have hn' : n = p.length + (r.length + 1) := by simpa using hn
    subst hn'
    have hy := lay_mid eU8 p x r (IntKind.u8.wrap t)
    simp at hy
    have e : t + ((r.length : Int) + 1) = t + 1 + r.length := by omega
    simp +contextual -implicitDefEqProofs [L_laws_markByteS, retK_eq, cutK_eq, hw, hw2.1, hy, h, markB, e]
theorem s_markByteS (l : List Int) (t : Int) (hl : l.length < 1000000000) (h0 : 0 ≤ t) (h1 : t ≤ 100000000000) : X_laws_markByteS [slO 0 l.length, .int .i64 t] [ownB eU8 l] = some (.int .i64 (t + l.length), [ownB eU8 (markB t l.length)]) := by
  have h := l_markByteS l [] t QQ l.length (by unfold QQ; omega) rfl hl h0 (by omega)
  simp at h
  simp +contextual -implicitDefEqProofs [X_laws_markByteS, retK_eq, cutK_eq, h]
theorem rcall_one {X : List Value → Mem → Option VM} {m : Mem} {a n c : Nat} {rest : List Value} {l l' : List Int} {v : Value} (hm : m[a]? = some (ownB eU8 l)) (hrest : rest.all scal = true) (hv : scal v = true) (hX : X (.slice (some ⟨0, 0, none⟩) n c :: rest) [ownB eU8 l] = some (v, [ownB eU8 l'])) : rcall X (.slice (some ⟨a, 0, none⟩) n c :: rest) m = some (v, m.set a (ownB eU8 l')) := by
  have hnm : (Value.slice (some ⟨a, 0, none⟩) n c :: rest).flatMap (nmV 8) = [a] := by
    rw [List.flatMap_cons, nm_scal hrest]
    rfl
  have hrn : mapO (rnV 8 inert (ixOf [a])) (.slice (some ⟨a, 0, none⟩) n c :: rest) = some (.slice (some ⟨0, 0, none⟩) n c :: rest) := by
    have hr := rn_scal (j := 7) (π := ixOf [a]) (l := rest) (r := []) hrest
    rw [List.append_nil] at hr
    rw [mapO_cons, rn_inert_sl, ixOf_cons, if_pos rfl, bo_some, bo_some, hr]
    simp [mapO]
  have hre : reachF 4194304 m [a] [] = some [a] := by
    rw [reach_cons, if_neg (by simp), hm]
    simp only [nmB_own, List.append_nil, List.nil_append]
    rfl
  have hlo : locM m [a] [a] = some [ownB eU8 l] := by
    rw [locM_cons, hm]
    simp only [locB_own, bo_some]
    rfl
  rw [rcall_eq, hnm, hre, bo_some, hrn, bo_some, hlo, bo_some, hX, bo_some]
  simp only [List.length_singleton, Nat.le_refl, if_true]
  rw [rnV_scal hv, bo_some, mapB_cons, bkB_own, bo_some]
  simp
end Go.Ab
namespace Go.Ab
set_option maxHeartbeats 8000000
theorem szL_le (l : List Nat) : ∀ (x : Int), 0 ≤ szL l x → szL l x ≤ x ∧ ∀ n ∈ l, (n : Int) ≤ x := by
  induction l with
  | nil => intro x h; exact ⟨Int.le_refl _, by simp⟩
  | cons n r ih =>
    intro x h
    rw [szL] at h ⊢
    split at h
    · omega
    · rename_i hs
      rw [if_neg hs]
      obtain ⟨h1, h2⟩ := ih _ h
      have h3 : szN n x = x - n := by unfold szN at hs ⊢; split <;> simp_all
      refine ⟨by omega, fun k hk => ?_⟩
      rcases List.mem_cons.1 hk with rfl | hk
      · omega
      · have := h2 k hk
        omega
theorem l_eqByteS (r : List Int) : ∀ (p : List Int) (q : Nat), r.length < q → (p ++ r).length < 1000000000 → L_laws_eqByteS 0 q 0 [frS eU8 (p ++ r), frS eU8 (p ++ r), .int .i64 p.length] [] = some (.bool true, []) := by
  induction r with
  | nil =>
    intro p q hq hl
    obtain ⟨q, rfl⟩ : ∃ n, q = n + 1 := ⟨q - 1, by omega⟩
    simp +contextual -implicitDefEqProofs [L_laws_eqByteS, retK_eq]
  | cons x r ih =>
    intro p q hq hl
    obtain ⟨q, rfl⟩ : ∃ n, q = n + 1 := ⟨q - 1, by omega⟩
    have h := ih (p ++ [x]) q (by simp at hq; omega) (by simpa using hl)
    simp at h
    have hx := ixa_mid eU8 (sz := 1) rfl .i64 p x r
    have hw := wrap_next (n := p.length) (by simp at hl; omega)
    simp +contextual -implicitDefEqProofs [L_laws_eqByteS, retK_eq, cutK_eq, hx, hw, h]
theorem s_eqByteS (a : List Int) (ha : a.length < 1000000000) : X_laws_eqByteS [frS eU8 a, frS eU8 a] [] = some (.bool true, []) := by
  have h2 := l_eqByteS a [] QQ (by unfold QQ; omega) (by simpa using ha)
  simp at h2
  simp +contextual -implicitDefEqProofs [X_laws_eqByteS, cutK_eq, retK_eq, h2]
theorem l_heldByteS (n : Nat) : ∀ (p : List Int) (t : Int) (q : Nat), n < q → p.length + n < 1000000000 → 0 ≤ t → t + n ≤ 1000000000000 → L_laws_heldByteS 0 q 0 [frS eU8 (p ++ markB t n), .int .i64 t, .int .i64 p.length] [] = some (.int .i64 (t + n), []) := by
  induction n with
  | zero =>
    intro p t q hq hn h0 h1
    obtain ⟨q, rfl⟩ : ∃ n, q = n + 1 := ⟨q - 1, by omega⟩
    simp -implicitDefEqProofs [L_laws_heldByteS, retK_eq, markB]
  | succ n ih =>
    intro p t q hq hn h0 h1
    obtain ⟨q, rfl⟩ : ∃ n, q = n + 1 := ⟨q - 1, by omega⟩
    have h := ih (p ++ [IntKind.u8.wrap t]) (t + 1) q (by omega) (by simp; omega) (by omega) (by push_cast at h1; omega)
    simp at h
    have hx := ixa_mid eU8 (sz := 1) rfl .i64 p (IntKind.u8.wrap t) (markB (t + 1) n)
    have hw := wrap_next (n := p.length) (by omega)
    have hw2 := wrap_one h0 (by omega)
    have e : t + ((n : Int) + 1) = t + 1 + n := by omega
    simp +contextual -implicitDefEqProofs [L_laws_heldByteS, retK_eq, cutK_eq, hx, hw, hw2.1, h, markB, e]
theorem s_heldByteS (n : Nat) (t : Int) (hn : n < 1000000000) (h0 : 0 ≤ t) (h1 : t ≤ 100000000000) : X_laws_heldByteS [frS eU8 (markB t n), .int .i64 t] [] = some (.int .i64 (t + n), []) := by
  have h := l_heldByteS n [] t QQ (by unfold QQ; omega) (by simpa using hn) h0 (by omega)
  simp at h
  simp +contextual -implicitDefEqProofs [X_laws_heldByteS, retK_eq, cutK_eq, h]
end Go.Ab
namespace Go.Ab
set_option maxHeartbeats 8000000
theorem l_szByteSS (r : List (List Int)) : ∀ (p : List (List Int)) (left : Int) (q : Nat), r.length < q → (p ++ r).length < 1000000000 → (∀ x ∈ r, x.length ≤ 9223372036854775807) → 0 ≤ left → left ≤ 1048576 → L_laws_szByteSS 0 q 0 [frS eBS (p ++ r), .int .i64 left, .int .i64 p.length] [] = some (.int .i64 (szL (r.map List.length) left), []) := by
  induction r with
  | nil =>
    intro p left q hq hl hb h0 h1
    obtain ⟨q, rfl⟩ : ∃ n, q = n + 1 := ⟨q - 1, by omega⟩
    simp -implicitDefEqProofs [L_laws_szByteSS, retK_eq, szL]
  | cons x r ih =>
    intro p left q hq hl hb h0 h1
    obtain ⟨q, rfl⟩ : ∃ n, q = n + 1 := ⟨q - 1, by omega⟩
    have hx := ixa_mid eBS (sz := 1) rfl .i64 p x r
    have hw := wrap_next (n := p.length) (by simp at hl; omega)
    have hc := s_szByteS x left (hb x (by simp)) h0 h1
    have hle := szN_le (n := x.length) h1
    by_cases hs : szN x.length left < 0
    · simp +contextual -implicitDefEqProofs [L_laws_szByteSS, retK_eq, cutK_eq, hx, hw, hc, hs, szL]
    · have h := ih (p ++ [x]) (szN x.length left) q (by simp at hq; omega) (by simpa using hl) (fun y hy => hb y (by simp [hy])) (by omega) hle
      simp at h
      simp +contextual -implicitDefEqProofs [L_laws_szByteSS, retK_eq, cutK_eq, hx, hw, hc, hs, szL, h]
def szSS (l : List (List Int)) (left : Int) : Int := if szN l.length left < 0 then -1 else szL (l.map List.length) (szN l.length left)
theorem s_szByteSS (l : List (List Int)) (left : Int) (hl : l.length ≤ 9223372036854775807) (hb : ∀ x ∈ l, x.length ≤ 9223372036854775807) (h0 : 0 ≤ left) (h1 : left ≤ 1048576) : X_laws_szByteSS [frS eBS l, .int .i64 left] [] = some (.int .i64 (szSS l left), []) := by
  have hw : IntKind.i64.wrap (left - l.length) = left - l.length := wrap_i64 (by omega) (by omega)
  by_cases hs : left - l.length < 0
  · have hs2 : szN l.length left < 0 := by unfold szN; rw [if_pos hs]; omega
    simp +contextual -implicitDefEqProofs [X_laws_szByteSS, retK_eq, cutK_eq, hw, hs, szSS, hs2]
  · have hs2 : szN l.length left = left - l.length := by unfold szN; rw [if_neg hs]
    have h := l_szByteSS l [] (left - l.length) QQ (by unfold QQ; omega) (by simp; omega) hb (by omega) (by omega)
    simp at h
    simp +contextual -implicitDefEqProofs [X_laws_szByteSS, retK_eq, cutK_eq, hw, hs, szSS, hs2, h]
end Go.Ab
namespace Go.Ab
set_option maxHeartbeats 8000000
def markSS (t : Int) : List (List Int) → List (List Int)
  | [] => []
  | x :: r => markB t x.length :: markSS (t + x.length) r
def upSS (t : Int) : List (List Int) → Int
  | [] => t
  | x :: r => upSS (t + x.length) r
theorem markSS_len (t : Int) (l : List (List Int)) : (markSS t l).length = l.length := by
  induction l generalizing t with
  | nil => rfl
  | cons x r ih => rw [markSS, List.length_cons, List.length_cons, ih]
theorem upSS_le (t : Int) (l : List (List Int)) : t ≤ upSS t l := by
  induction l generalizing t with
  | nil => exact Int.le_refl _
  | cons x r ih =>
    have := ih (t + x.length)
    rw [upSS]
    omega
theorem cell_A (k : Nat) (p : List (List Int)) (x : List Int) (r : List (List Int)) : (famX k ((p ++ x :: r).map elS))[p.length]? = some (slO (k + p.length) x.length) := by
  rw [List.map_append, famX_app, elS_N, List.map_cons, famX_S]
  have hl := famX_Slen k p
  rw [List.getElem?_append_right (by omega), hl, Nat.sub_self]
  rfl
theorem blk_A (k : Nat) (p : List (List Int)) (x : List Int) (r : List (List Int)) : (memA k (p ++ x :: r))[p.length + 1]? = some (ownB eU8 x) := by
  have e : famM eU8 ((p ++ x :: r).map elS) = famM eU8 (p.map elS) ++ (ownB eU8 x :: famM eU8 (r.map elS)) := by
    rw [List.map_append, famM_app, show (x :: r).map elS = [x].map elS ++ r.map elS from rfl, famM_app, famM_S1]
    rfl
  show (famM eU8 ((p ++ x :: r).map elS))[p.length]? = _
  have hl : (famM eU8 (p.map elS)).length = p.length := by rw [famM_len, elS_N]
  rw [e, List.getElem?_append_right (by omega), hl, Nat.sub_self]
  rfl
theorem famX_same (k : Nat) : ∀ (a b : List (List Int)), a.map List.length = b.map List.length → famX k (a.map elS) = famX k (b.map elS) := by
  intro a
  induction a generalizing k with
  | nil =>
    intro b h
    cases b with
    | nil => rfl
    | cons y b => simp at h
  | cons x a ih =>
    intro b h
    cases b with
    | nil => simp at h
    | cons y b =>
      simp at h
      rw [List.map_cons, List.map_cons, famX_S, famX_S, h.1, ih (k + 1) b h.2]
theorem set_A (k : Nat) (p : List (List Int)) (x y : List Int) (r : List (List Int)) (h : y.length = x.length) : (memA k (p ++ x :: r)).set (p.length + 1) (ownB eU8 y) = memA k (p ++ y :: r) := by
  have e : ∀ x : List Int, famM eU8 ((p ++ x :: r).map elS) = famM eU8 (p.map elS) ++ (ownB eU8 x :: famM eU8 (r.map elS)) := fun x => by
    rw [List.map_append, famM_app, show (x :: r).map elS = [x].map elS ++ r.map elS from rfl, famM_app, famM_S1]
    rfl
  have hl : (famM eU8 (p.map elS)).length = p.length := by rw [famM_len, elS_N]
  have h1 : famX k ((p ++ y :: r).map elS) = famX k ((p ++ x :: r).map elS) := famX_same k _ _ (by simp [h])
  show famB k 1 ((p ++ x :: r).map elS) :: (famM eU8 ((p ++ x :: r).map elS)).set p.length (ownB eU8 y) = famB k 1 ((p ++ y :: r).map elS) :: famM eU8 ((p ++ y :: r).map elS)
  rw [e x, e y]
  unfold famB
  rw [h1, List.set_append_right _ _ (by omega), hl, Nat.sub_self]
  rfl
end Go.Ab
namespace Go.Ab
set_option maxHeartbeats 8000000
theorem szL_up (l : List (List Int)) : ∀ (x t : Int), 0 ≤ szL (l.map List.length) x → upSS t l ≤ t + x - szL (l.map List.length) x := by
  induction l with
  | nil => intro x t h; simp [szL, upSS]
  | cons n r ih =>
    intro x t h
    rw [List.map_cons, szL] at h ⊢
    split at h
    · omega
    · rename_i hs
      rw [if_neg hs, upSS]
      have := ih _ (t + n.length) h
      have h3 : szN n.length x = x - n.length := by unfold szN at hs ⊢; split <;> simp_all
      omega
theorem l_eqByteSS (r : List (List Int)) : ∀ (p : List (List Int)) (q : Nat), r.length < q → (p ++ r).length < 1000000000 → (∀ x ∈ r, x.length < 1000000000) → L_laws_eqByteSS 0 q 0 [frS eBS (p ++ r), frS eBS (p ++ r), .int .i64 p.length] [] = some (.bool true, []) := by
  induction r with
  | nil =>
    intro p q hq hl hb
    obtain ⟨q, rfl⟩ : ∃ n, q = n + 1 := ⟨q - 1, by omega⟩
    simp +contextual -implicitDefEqProofs [L_laws_eqByteSS, retK_eq]
  | cons x r ih =>
    intro p q hq hl hb
    obtain ⟨q, rfl⟩ : ∃ n, q = n + 1 := ⟨q - 1, by omega⟩
    have h := ih (p ++ [x]) q (by simp at hq; omega) (by simpa using hl) (fun y hy => hb y (by simp [hy]))
    simp at h
    have hx := ixa_mid eBS (sz := 1) rfl .i64 p x r
    have hw := wrap_next (n := p.length) (by simp at hl; omega)
    have hc := s_eqByteS x (hb x (by simp))
    simp +contextual -implicitDefEqProofs [L_laws_eqByteSS, retK_eq, cutK_eq, hx, hw, hc, h]
theorem s_eqByteSS (a : List (List Int)) (ha : a.length < 1000000000) (hb : ∀ x ∈ a, x.length < 1000000000) : X_laws_eqByteSS [frS eBS a, frS eBS a] [] = some (.bool true, []) := by
  have h2 := l_eqByteSS a [] QQ (by unfold QQ; omega) (by simpa using ha) hb
  simp at h2
  simp +contextual -implicitDefEqProofs [X_laws_eqByteSS, cutK_eq, retK_eq, h2]
end Go.Ab
namespace Go.Ab
set_option maxHeartbeats 4000000
theorem s_eqLine (l : LnT) (hl : l.small) : X_laws_eqLine [lnV l, lnV l] [] = some (.bool true, []) := by
  have c1 := s_eqByteSS l.rows hl.1 hl.2.1
  have c2 := s_eqByteS l.cur hl.2.2
  simp (maxSteps := 2000000) +contextual -implicitDefEqProofs [X_laws_eqLine, retK_eq, c1, c2]
theorem s_eqLineResult (c : Int) (b : Bool) (O E : List Int) (l : LnT) (hO : O.length < 1000000000) (hE : E.length < 1000000000) (hl : l.small) : X_laws_eqLineResult [lrF c b O E l, lrF c b O E l] [] = some (.bool true, []) := by
  have c1 := s_eqByteS O hO
  have c2 := s_eqByteS E hE
  have c3 := s_eqLine l hl
  simp (maxSteps := 2000000) -implicitDefEqProofs [X_laws_eqLineResult, retK_eq, c1, c2, c3]
end Go.Ab
namespace Go.Ab
set_option maxHeartbeats 8000000
theorem l_markByteSS (r : List (List Int)) : ∀ (p : List (List Int)) (t : Int) (q n : Nat), r.length < q → n = (p ++ r).length → n < 1100000 → (∀ x ∈ r, x.length < 1000000000) → 0 ≤ t → upSS t r ≤ 100000000000 → L_laws_markByteSS (n + 1) q 0 [slO 0 n, .int .i64 t, .int .i64 p.length] (memA 1 (p ++ r)) = some (.int .i64 (upSS t r), memA 1 (p ++ markSS t r)) := by
  induction r with
  | nil =>
    intro p t q n hq hn hl hb h0 h1
    obtain ⟨q, rfl⟩ : ∃ n, q = n + 1 := ⟨q - 1, by omega⟩
    have hn' : n = p.length := by simpa using hn
    subst hn'
    have hret := fun pv => retN_fam eU8 (k := p.length + 1) (s := 1) (es := p.map elS) (pv := pv) (v := .int .i64 t) rfl (by rw [elS_N]) (ok_A p) (by rw [elS_N]; omega)
    rw [List.append_nil, markSS, List.append_nil, upSS]
    generalize hM : memA 1 p = M
    have hret : ∀ pv, retK (p.length + 1) M pv (.int .i64 t) = some (.int .i64 t, M) := by rw [← hM]; exact hret
    simp -implicitDefEqProofs [L_laws_markByteSS, hret]
  | cons x r ih =>
    intro p t q n hq hn hl hb h0 h1
    obtain ⟨q, rfl⟩ : ∃ n, q = n + 1 := ⟨q - 1, by omega⟩
    have hn' : n = p.length + (r.length + 1) := by simpa using hn
    have hup := upSS_le (t + x.length) r
    rw [upSS] at h1
    have h := ih (p ++ [markB t x.length]) (t + x.length) q n (by simp at hq; omega) (by simpa using hn) hl (fun y hy => hb y (by simp [hy])) (by omega) h1
    have hw := wrap_next (n := p.length) (by omega)
    have hz := fun n' o cc => ixa_sl (sz := 1) .i64 (n := n') (o := o) (len := n) (c := cc) (j := (p.length : Int)) (by omega) (by omega)
    simp only [Int.toNat_natCast] at hz
    have hc := s_markByteS x t (hb x (by simp)) h0 (by omega)
    have hcell := cell_A 1 p x r
    have hr := rcall_one (blk_A 1 p x r) (rest := [.int .i64 t]) rfl (v := .int .i64 (t + x.length)) rfl hc
    rw [set_A 1 p x (markB t x.length) r (by simp)] at hr
    have hcut := fun pv J => cutN_fam eU8 (k := n + 1) (s := 1) (n := n) (c := n) (es := (p ++ markB t x.length :: r).map elS) (xs := []) (ys := [.int .i64 (t + x.length), .int .i64 ((p.length : Int) + 1)]) (pv := pv) (J := J) (by rw [elS_N, hn']; simp) rfl rfl (ok_A _) (by rw [elS_N]; simp; omega)
    simp only [List.nil_append] at hcut
    have e1 : p ++ [markB t x.length] ++ r = p ++ markB t x.length :: r := by simp
    have e2 : ((p ++ [markB t x.length]).length : Int) = p.length + 1 := by simp
    have e3 : p ++ [markB t x.length] ++ markSS (t + x.length) r = p ++ markB t x.length :: markSS (t + x.length) r := by simp
    rw [e1, e2, e3] at h
    rw [upSS, markSS]
    have hM0 : (memA 1 (p ++ x :: r))[0]? = some ⟨famX 1 ((p ++ x :: r).map elS), 1, true, true⟩ := rfl
    have hC : (famX 1 ((p ++ x :: r).map elS)).length = p.length + (r.length + 1) := by rw [famX_Slen]; simp
    have hcut : ∀ pv J, cutK (n + 1) (memA 1 (p ++ markB t x.length :: r)) pv [slO 0 n, .int .i64 (t + x.length), .int .i64 ((p.length : Int) + 1)] J = J [slO 0 n, .int .i64 (t + x.length), .int .i64 ((p.length : Int) + 1)] (memA 1 (p ++ markB t x.length :: r)) := hcut
    rw [Nat.add_comm p.length 1] at hr
    generalize memA 1 (p ++ markB t x.length :: r) = M2 at *
    generalize memA 1 (p ++ x :: r) = M at *
    generalize famX 1 ((p ++ x :: r).map elS) = C at *
    have g1 : (p.length : Int) < n := by omega
    have g2 : p.length + 1 ≤ C.length := by omega
    simp (maxSteps := 400000) -implicitDefEqProofs [-rcall_eq, L_laws_markByteSS, hw, hz, g1, g2, hM0, hcell, hr, hcut, h]
end Go.Ab
namespace Go.Ab
set_option maxHeartbeats 8000000
theorem memA_len (k : Nat) (l : List (List Int)) : (memA k l).length = l.length + 1 := by
  show (famM eU8 (l.map elS)).length + 1 = _
  rw [famM_len, elS_N]
theorem s_markByteSS (l : List (List Int)) (t : Int) (hl : l.length < 1100000) (hb : ∀ x ∈ l, x.length < 1000000000) (h0 : 0 ≤ t) (h1 : upSS t l ≤ 100000000000) : X_laws_markByteSS [slO 0 l.length, .int .i64 t] (memA 1 l) = some (.int .i64 (upSS t l), memA 1 (markSS t l)) := by
  have h := l_markByteSS l [] t QQ l.length (by unfold QQ; omega) rfl hl hb h0 h1
  have hcut := fun pv J => cutN_fam eU8 (k := l.length + 1) (s := 1) (n := l.length) (c := l.length) (es := l.map elS) (xs := []) (ys := [.int .i64 t, .int .i64 0]) (pv := pv) (J := J) (by rw [elS_N]) rfl rfl (ok_A _) (by rw [elS_N]; omega)
  simp only [List.nil_append, List.length_nil, Int.natCast_zero] at h hcut
  have hcut : ∀ pv J, cutK (l.length + 1) (memA 1 l) pv [slO 0 l.length, .int .i64 t, .int .i64 0] J = J [slO 0 l.length, .int .i64 t, .int .i64 0] (memA 1 l) := hcut
  have hM := memA_len 1 l
  generalize memA 1 l = M at *
  simp (maxSteps := 400000) -implicitDefEqProofs [X_laws_markByteSS, hM, hcut, h]
end Go.Ab
namespace Go.Ab
set_option maxHeartbeats 40000000
theorem szN_val {n : Nat} {x : Int} (h : ¬ szN n x < 0) : szN n x = x - n := by
  unfold szN at *
  split at h
  · omega
  · rename_i h1; rw [if_neg h1]
end Go.Ab
namespace Go.Ab
set_option maxHeartbeats 40000000
theorem sumL_up (l : List (List Int)) : ∀ t : Int, upSS t l = t + sumL l := by
  induction l with
  | nil => intro t; simp [upSS, sumL]
  | cons x r ih => intro t; rw [upSS, ih, sumL]; push_cast; omega
theorem szSS_small {l : List (List Int)} {x : Int} (hx : x ≤ 1048576) (h : 0 ≤ szSS l x) : szSS l x ≤ x ∧ l.length ≤ 1048576 ∧ (∀ e ∈ l, e.length < 1000000000) ∧ sumL l < 100000000 := by
  unfold szSS at *
  have h0 : ¬ szN l.length x < 0 := fun c => by rw [if_pos c] at h; omega
  rw [if_neg h0] at h ⊢
  have h1 := szL_le _ _ h
  have h2 := szL_up l _ 1 h
  have h3 := szN_val h0
  rw [sumL_up] at h2
  refine ⟨by omega, by omega, fun e he => ?_, by omega⟩
  have := h1.2 e.length (List.mem_map.2 ⟨e, he, rfl⟩)
  omega
end Go.Ab
namespace Go.Ab
set_option maxHeartbeats 4000000
def szLn (l : LnT) (left : Int) : Int := if szSS l.rows left < 0 then -1 else szN l.cur.length (szSS l.rows left)
theorem s_szLine (l : LnT) (left : Int) (hl : l.fit) (h0 : 0 ≤ left) (h1 : left ≤ 1048576) : X_laws_szLine [lnV l, .int .i64 left] [] = some (.int .i64 (szLn l left), []) := by
  have c1 := s_szByteSS l.rows left hl.1 hl.2.1 h0 h1
  by_cases e1 : szSS l.rows left < 0
  · simp +contextual -implicitDefEqProofs [X_laws_szLine, retK_eq, c1, e1, szLn]
  · have hle : szSS l.rows left ≤ 1048576 := by
      have := (szSS_small (l := l.rows) h1 (by omega)).1
      omega
    have c2 := s_szByteS l.cur (szSS l.rows left) hl.2.2 (by omega) hle
    have : szN l.cur.length (szSS l.rows left) < 0 → szN l.cur.length (szSS l.rows left) = -1 := by unfold szN; split <;> omega
    by_cases e2 : szN l.cur.length (szSS l.rows left) < 0 <;> simp +contextual -implicitDefEqProofs [X_laws_szLine, retK_eq, c1, c2, e1, e2, szLn, this]
end Go.Ab
