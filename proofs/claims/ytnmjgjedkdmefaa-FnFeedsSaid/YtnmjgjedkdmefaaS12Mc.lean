/- What the functions of the program answer, for all arguments that the theorems name as conditions. -/
import Derived.Test.YtnmjgjedkdmefaaS12Mb
set_option linter.unusedVariables false
set_option linter.unusedSimpArgs false
namespace Go.Ab
set_option maxHeartbeats 4000000
theorem cut_g (w : WayT) (z : Zt) (e1 e2 : Value) (h1 : inert e1 = true) (h2 : inert e2 = true) (R : Option (List (List Int))) (E : EdT) (t : Bool) (n : Int) (Q : Mem) (i k : Nat) (o : List Int) (b : Int) (tt : Bool) (hQ : Q[i]? = some (ownB eU8 o)) (hi : k = i + fK z R E) (J : List Value → Mem → Option VM) : cutK (fK z R E) (fM w z e1 e2 R E t n ++ Q) [ptr0, pP z 1, .int .u8 b] [ptr0, pP z 1, .int .u8 b, slO k o.length, .bool tt] J = J [ptr0, pP z 1, .int .u8 b, slO (fK z R E) o.length, .bool tt] (fM w z e1 e2 R E t n ++ [ownB eU8 o]) := by
  subst hi
  have n1 : nmV 8 e1 = [] := inert_nm h1
  have n2 : nmV 8 e2 = [] := inert_nm h2
  have r1 : ∀ π, rnV 8 inert π e1 = some e1 := fun π => rnV_p h1
  have r2 : ∀ π, rnV 8 inert π e2 = some e2 := fun π => rnV_p h2
  rcases R with _ | r <;> rcases E with _ | ⟨c, j, m⟩ <;> cases z <;> simp -implicitDefEqProofs [cutK_eq, fK, hQ, h1, h2, n1, n2, r1, r2]
def gnO (w : WayT) (b : Int) (o : List Int) (k : Bool) : List Int := if hs w 4 then o else if k && (hs w 8 && hs w 2) then ecS w b ++ [10] else ecS w b
theorem ecS_len (w : WayT) (b : Int) : (ecS w b).length ≤ 2 := by
  unfold ecS shS
  split
  · split <;> simp
  · simp
theorem l_Gone (w : WayT) (z : Zt) (e1 e2 : Value) (h1 : inert e1 = true) (h2 : inert e2 = true) (R : Option (List (List Int))) (m : Nat) (t : Bool) (n b : Int) (N : Nat) : ∀ (c j out : List Int) (q : Nat), c.length ≤ N → N < 1000 → c.length ≤ m → N < q → out.length + 6 * N < 1000000 → ∃ j', (dwS w (fun _ => true) N c).1 ++ j' = c ++ j ∧ L_spec_l11Gone (fK z R (some (c, j, m))) q 0 [ptr0, pP z 1, .int .u8 b, slO (fK z R (some (c, j, m))) out.length, .bool true] (fM w z e1 e2 R (some (c, j, m)) t n ++ [ownB eU8 out]) = some (slO (fK z R (some (c, j, m))) (gnO w b (out ++ (dwS w (fun _ => true) N c).2) true).length, fM w z e1 e2 R (some ((dwS w (fun _ => true) N c).1, j', m)) t n ++ [ownB eU8 (gnO w b (out ++ (dwS w (fun _ => true) N c).2) true)]) := by
  induction N with
  | zero =>
    intro c j out q hN hN2 hm hq ho
    obtain ⟨q, rfl⟩ : ∃ n, q = n + 1 := ⟨q - 1, by omega⟩
    obtain rfl : c = [] := List.eq_nil_of_length_eq_zero (by omega)
    have hld : ld1 (fM w z e1 e2 R (some ([], j, m)) t n ++ [ownB eU8 out]) (.pointer (some ⟨1, pO z + 1, none⟩)) = some (slQ (zN z + (rB R).length) 0 0 m) := by rcases R with _ | r <;> cases z <;> simp
    have hl := fM_len w z e1 e2 R (some ([], j, m)) t n
    have m0 : (fM w z e1 e2 R (some ([], j, m)) t n ++ [ownB eU8 out])[0]? = some (wB w) := rfl
    have m1 : (fM w z e1 e2 R (some ([], j, m)) t n ++ [ownB eU8 out, ownB eU8 (ecS w b)])[0]? = some (wB w) := rfl
    have k4 := f_Has w 4 _ m0
    have k8 := f_Has w 8 _ m1
    have k2 := f_Has w 2 _ m1
    have ke := f_Echo w b _ m0
    rw [List.append_assoc, List.length_append, hl] at ke
    have ke2 : fcall X_spec_l11Echo [ptr0, .int .u8 b] (fM w z e1 e2 R (some ([], j, m)) t n ++ [ownB eU8 out]) = some (slO (fK z R (some ([], j, m)) + 1) (ecS w b).length, fM w z e1 e2 R (some ([], j, m)) t n ++ [ownB eU8 out, ownB eU8 (ecS w b)]) := ke
    clear ke
    have rA := rt_any w z e1 e2 h1 h2 R (some ([], j, m)) (some ([], j, m)) rfl t n [ownB eU8 out] 0 (fK z R (some ([], j, m))) out rfl (by omega) [.int .u8 b]
    have rE := rt_any w z e1 e2 h1 h2 R (some ([], j, m)) (some ([], j, m)) rfl t n [ownB eU8 out, ownB eU8 (ecS w b)] 1 (fK z R (some ([], j, m)) + 1) (ecS w b) rfl (by omega) [.int .u8 b]
    have hap : apL (fM w z e1 e2 R (some ([], j, m)) t n ++ [ownB eU8 out, ownB eU8 (ecS w b), ownB eU8 [10]]) 1 1 (slO (fK z R (some ([], j, m)) + 1) (ecS w b).length) (slO (fK z R (some ([], j, m)) + 2) 1) = some (slO (fK z R (some ([], j, m)) + 3) (ecS w b ++ [10]).length, fM w z e1 e2 R (some ([], j, m)) t n ++ [ownB eU8 out, ⟨cellsE eU8 (ecS w b), 1, true, false⟩, ownB eU8 [10], ownB eU8 (ecS w b ++ [10])]) := by
      have := ap_gen (fM w z e1 e2 R (some ([], j, m)) t n ++ [ownB eU8 out]) (fK z R (some ([], j, m)) + 1) (by rw [List.length_append, hl]; rfl) (ecS w b) [10] (by have := ecS_len w b; simp; omega)
      rw [List.append_assoc, List.append_assoc] at this
      exact this
    have rX := rt_any w z e1 e2 h1 h2 R (some ([], j, m)) (some ([], j, m)) rfl t n [ownB eU8 out, ⟨cellsE eU8 (ecS w b), 1, true, false⟩, ownB eU8 [10], ownB eU8 (ecS w b ++ [10])] 3 (fK z R (some ([], j, m)) + 3) (ecS w b ++ [10]) rfl (by omega) [.int .u8 b]
    have hl2 : (fM w z e1 e2 R (some ([], j, m)) t n ++ [ownB eU8 out, ownB eU8 (ecS w b)]).length = fK z R (some ([], j, m)) + 2 := by rw [List.length_append, hl]; rfl
    have hM3 : (fM w z e1 e2 R (some ([], j, m)) t n ++ [ownB eU8 out, ownB eU8 (ecS w b)]) ++ [⟨[.int .u8 10], 1, true, true⟩] = fM w z e1 e2 R (some ([], j, m)) t n ++ [ownB eU8 out, ownB eU8 (ecS w b), ownB eU8 [10]] := by rw [List.append_assoc]; rfl
    have hLX : (ecS w b ++ [10]).length = (ecS w b).length + 1 := by simp
    rw [hLX] at rX hap
    refine ⟨j, rfl, ?_⟩
    simp only [dwS, List.append_nil]
    unfold gnO
    generalize fM w z e1 e2 R (some ([], j, m)) t n ++ [ownB eU8 out, ⟨cellsE eU8 (ecS w b), 1, true, false⟩, ownB eU8 [10], ownB eU8 (ecS w b ++ [10])] = M4 at *
    generalize fM w z e1 e2 R (some ([], j, m)) t n ++ [ownB eU8 out, ownB eU8 (ecS w b), ownB eU8 [10]] = M3 at *
    generalize fM w z e1 e2 R (some ([], j, m)) t n ++ [ownB eU8 out, ownB eU8 (ecS w b)] = M2 at *
    generalize hMd : fM w z e1 e2 R (some ([], j, m)) t n ++ [ownB eU8 out] = M at *
    generalize fM w z e1 e2 R (some ([], j, m)) t n = F0 at *
    generalize hKK : fK z R (some ([], j, m)) = K at *
    generalize hRB : zN z + (rB R).length = RB at *
    cases b4 : hs w 4 <;> cases b8 : hs w 8 <;> cases b2 : hs w 2 <;> rw [b4] at k4 <;> rw [b8] at k8 <;> rw [b2] at k2 <;> simp -implicitDefEqProofs [-pO, -pP, -fcall_eq, L_spec_l11Gone, hld, k4, k8, k2, ke2, rA, rE, hap, rX, hl2, hM3, hMd]
  | succ N ih =>
    intro c j out q hN hN2 hm hq ho
    obtain ⟨q, rfl⟩ : ∃ n, q = n + 1 := ⟨q - 1, by omega⟩
    by_cases h0 : c = []
    · subst h0
      have hld : ld1 (fM w z e1 e2 R (some ([], j, m)) t n ++ [ownB eU8 out]) (.pointer (some ⟨1, pO z + 1, none⟩)) = some (slQ (zN z + (rB R).length) 0 0 m) := by rcases R with _ | r <;> cases z <;> simp
      have hl := fM_len w z e1 e2 R (some ([], j, m)) t n
      have m0 : (fM w z e1 e2 R (some ([], j, m)) t n ++ [ownB eU8 out])[0]? = some (wB w) := rfl
      have m1 : (fM w z e1 e2 R (some ([], j, m)) t n ++ [ownB eU8 out, ownB eU8 (ecS w b)])[0]? = some (wB w) := rfl
      have k4 := f_Has w 4 _ m0
      have k8 := f_Has w 8 _ m1
      have k2 := f_Has w 2 _ m1
      have ke := f_Echo w b _ m0
      rw [List.append_assoc, List.length_append, hl] at ke
      have ke2 : fcall X_spec_l11Echo [ptr0, .int .u8 b] (fM w z e1 e2 R (some ([], j, m)) t n ++ [ownB eU8 out]) = some (slO (fK z R (some ([], j, m)) + 1) (ecS w b).length, fM w z e1 e2 R (some ([], j, m)) t n ++ [ownB eU8 out, ownB eU8 (ecS w b)]) := ke
      clear ke
      have rA := rt_any w z e1 e2 h1 h2 R (some ([], j, m)) (some ([], j, m)) rfl t n [ownB eU8 out] 0 (fK z R (some ([], j, m))) out rfl (by omega) [.int .u8 b]
      have rE := rt_any w z e1 e2 h1 h2 R (some ([], j, m)) (some ([], j, m)) rfl t n [ownB eU8 out, ownB eU8 (ecS w b)] 1 (fK z R (some ([], j, m)) + 1) (ecS w b) rfl (by omega) [.int .u8 b]
      have hap : apL (fM w z e1 e2 R (some ([], j, m)) t n ++ [ownB eU8 out, ownB eU8 (ecS w b), ownB eU8 [10]]) 1 1 (slO (fK z R (some ([], j, m)) + 1) (ecS w b).length) (slO (fK z R (some ([], j, m)) + 2) 1) = some (slO (fK z R (some ([], j, m)) + 3) (ecS w b ++ [10]).length, fM w z e1 e2 R (some ([], j, m)) t n ++ [ownB eU8 out, ⟨cellsE eU8 (ecS w b), 1, true, false⟩, ownB eU8 [10], ownB eU8 (ecS w b ++ [10])]) := by
        have := ap_gen (fM w z e1 e2 R (some ([], j, m)) t n ++ [ownB eU8 out]) (fK z R (some ([], j, m)) + 1) (by rw [List.length_append, hl]; rfl) (ecS w b) [10] (by have := ecS_len w b; simp; omega)
        rw [List.append_assoc, List.append_assoc] at this
        exact this
      have rX := rt_any w z e1 e2 h1 h2 R (some ([], j, m)) (some ([], j, m)) rfl t n [ownB eU8 out, ⟨cellsE eU8 (ecS w b), 1, true, false⟩, ownB eU8 [10], ownB eU8 (ecS w b ++ [10])] 3 (fK z R (some ([], j, m)) + 3) (ecS w b ++ [10]) rfl (by omega) [.int .u8 b]
      have hl2 : (fM w z e1 e2 R (some ([], j, m)) t n ++ [ownB eU8 out, ownB eU8 (ecS w b)]).length = fK z R (some ([], j, m)) + 2 := by rw [List.length_append, hl]; rfl
      have hM3 : (fM w z e1 e2 R (some ([], j, m)) t n ++ [ownB eU8 out, ownB eU8 (ecS w b)]) ++ [⟨[.int .u8 10], 1, true, true⟩] = fM w z e1 e2 R (some ([], j, m)) t n ++ [ownB eU8 out, ownB eU8 (ecS w b), ownB eU8 [10]] := by rw [List.append_assoc]; rfl
      have hLX : (ecS w b ++ [10]).length = (ecS w b).length + 1 := by simp
      rw [hLX] at rX hap
      refine ⟨j, by rw [dwS_stop _ _ _ _ (by simp)], ?_⟩
      rw [dwS_stop _ _ _ _ (by simp), List.append_nil]
      unfold gnO
      generalize fM w z e1 e2 R (some ([], j, m)) t n ++ [ownB eU8 out, ⟨cellsE eU8 (ecS w b), 1, true, false⟩, ownB eU8 [10], ownB eU8 (ecS w b ++ [10])] = M4 at *
      generalize fM w z e1 e2 R (some ([], j, m)) t n ++ [ownB eU8 out, ownB eU8 (ecS w b), ownB eU8 [10]] = M3 at *
      generalize fM w z e1 e2 R (some ([], j, m)) t n ++ [ownB eU8 out, ownB eU8 (ecS w b)] = M2 at *
      generalize hMd : fM w z e1 e2 R (some ([], j, m)) t n ++ [ownB eU8 out] = M at *
      generalize fM w z e1 e2 R (some ([], j, m)) t n = F0 at *
      generalize hKK : fK z R (some ([], j, m)) = K at *
      generalize hRB : zN z + (rB R).length = RB at *
      cases b4 : hs w 4 <;> cases b8 : hs w 8 <;> cases b2 : hs w 2 <;> rw [b4] at k4 <;> rw [b8] at k8 <;> rw [b2] at k2 <;> simp -implicitDefEqProofs [-pO, -pP, -fcall_eq, L_spec_l11Gone, hld, k4, k8, k2, ke2, rA, rE, hap, rX, hl2, hM3, hMd]
    · have hp := List.length_pos_iff.2 h0
      have hld : ld1 (fM w z e1 e2 R (some (c, j, m)) t n ++ [ownB eU8 out]) (.pointer (some ⟨1, pO z + 1, none⟩)) = some (slQ (zN z + (rB R).length) 0 c.length m) := by rcases R with _ | r <;> cases z <;> simp
      have hd := rc_drop w z e1 e2 h1 h2 R c j out m t n (by omega) h0 hm
      have hdl := drO_len w c
      have hlt := laE_lt h0
      have hl1 : (fM w z e1 e2 R (some (c.take (laE c), c.drop (laE c) ++ j, m)) t n).length = fK z R (some (c, j, m)) := fM_len ..
      have hap := ap_gen _ _ hl1 out (drO w c) (by omega)
      have hcut : ∀ J, cutK (fK z R (some (c, j, m))) (fM w z e1 e2 R (some (c.take (laE c), c.drop (laE c) ++ j, m)) t n ++ [⟨cellsE eU8 out, 1, true, false⟩, ownB eU8 (drO w c), ownB eU8 (out ++ drO w c)]) [ptr0, pP z 1, .int .u8 b] [ptr0, pP z 1, .int .u8 b, slO (fK z R (some (c, j, m)) + 2) (out ++ drO w c).length, .bool true] J = J [ptr0, pP z 1, .int .u8 b, slO (fK z R (some (c, j, m))) (out ++ drO w c).length, .bool true] (fM w z e1 e2 R (some (c.take (laE c), c.drop (laE c) ++ j, m)) t n ++ [ownB eU8 (out ++ drO w c)]) := fun J => cut_g w z e1 e2 h1 h2 R (some (c.take (laE c), c.drop (laE c) ++ j, m)) t n _ 2 _ _ b true rfl (Nat.add_comm ..) J
      obtain ⟨j', g1, g2⟩ := ih (c.take (laE c)) (c.drop (laE c) ++ j) (out ++ drO w c) q (by simp; omega) (by omega) (by simp; omega) (by omega) (by simp; omega)
      have g2 : L_spec_l11Gone (fK z R (some (c, j, m))) q 0 [ptr0, pP z 1, .int .u8 b, slO (fK z R (some (c, j, m))) (out ++ drO w c).length, .bool true] (fM w z e1 e2 R (some (c.take (laE c), c.drop (laE c) ++ j, m)) t n ++ [ownB eU8 (out ++ drO w c)]) = _ := g2
      have hb : c ≠ [] ∧ (fun _ => true) (gt c (c.length - 1)) = true := ⟨h0, rfl⟩
      refine ⟨j', ?_, ?_⟩
      · rw [dwS, if_pos hb, g1, ← List.append_assoc, List.take_append_drop]
      · rw [dwS, if_pos hb]
        simp only [← List.append_assoc]
        refine Eq.trans ?_ g2
        generalize fM w z e1 e2 R (some (c.take (laE c), c.drop (laE c) ++ j, m)) t n ++ [ownB eU8 (out ++ drO w c)] = M3 at *
        generalize fM w z e1 e2 R (some (c.take (laE c), c.drop (laE c) ++ j, m)) t n ++ [⟨cellsE eU8 out, 1, true, false⟩, ownB eU8 (drO w c), ownB eU8 (out ++ drO w c)] = M2 at *
        generalize fM w z e1 e2 R (some (c.take (laE c), c.drop (laE c) ++ j, m)) t n ++ [ownB eU8 out, ownB eU8 (drO w c)] = M1 at *
        generalize fM w z e1 e2 R (some (c, j, m)) t n ++ [ownB eU8 out] = M at *
        generalize (out ++ drO w c).length = L at *
        generalize hRB : zN z + (rB R).length = RB at *
        generalize hKK : fK z R (some (c, j, m)) = K at *
        simp -implicitDefEqProofs [-pO, -pP, -rcall_eq, L_spec_l11Gone, hld, hp, hd, hap, hcut]
end Go.Ab
namespace Go.Ab
set_option maxHeartbeats 4000000
theorem l_GoneN (w : WayT) (z : Zt) (e1 e2 : Value) (h1 : inert e1 = true) (h2 : inert e2 = true) (R : Option (List (List Int))) (t : Bool) (n b : Int) (out : List Int) (q : Nat) (ho : out.length < 1000000) : L_spec_l11Gone (fK z R none) (q + 1) 0 [ptr0, pP z 1, .int .u8 b, slO (fK z R none) out.length, .bool true] (fM w z e1 e2 R none t n ++ [ownB eU8 out]) = some (slO (fK z R none) (gnO w b out true).length, fM w z e1 e2 R none t n ++ [ownB eU8 (gnO w b out true)]) := by
    have hld : ld1 (fM w z e1 e2 R none t n ++ [ownB eU8 out]) (.pointer (some ⟨1, pO z + 1, none⟩)) = some (.slice none 0 0) := by rcases R with _ | r <;> cases z <;> simp
    have hl := fM_len w z e1 e2 R none t n
    have m0 : (fM w z e1 e2 R none t n ++ [ownB eU8 out])[0]? = some (wB w) := rfl
    have m1 : (fM w z e1 e2 R none t n ++ [ownB eU8 out, ownB eU8 (ecS w b)])[0]? = some (wB w) := rfl
    have k4 := f_Has w 4 _ m0
    have k8 := f_Has w 8 _ m1
    have k2 := f_Has w 2 _ m1
    have ke := f_Echo w b _ m0
    rw [List.append_assoc, List.length_append, hl] at ke
    have ke2 : fcall X_spec_l11Echo [ptr0, .int .u8 b] (fM w z e1 e2 R none t n ++ [ownB eU8 out]) = some (slO (fK z R none + 1) (ecS w b).length, fM w z e1 e2 R none t n ++ [ownB eU8 out, ownB eU8 (ecS w b)]) := ke
    clear ke
    have rA := rt_any w z e1 e2 h1 h2 R none none rfl t n [ownB eU8 out] 0 (fK z R none) out rfl (by omega) [.int .u8 b]
    have rE := rt_any w z e1 e2 h1 h2 R none none rfl t n [ownB eU8 out, ownB eU8 (ecS w b)] 1 (fK z R none + 1) (ecS w b) rfl (by omega) [.int .u8 b]
    have hap : apL (fM w z e1 e2 R none t n ++ [ownB eU8 out, ownB eU8 (ecS w b), ownB eU8 [10]]) 1 1 (slO (fK z R none + 1) (ecS w b).length) (slO (fK z R none + 2) 1) = some (slO (fK z R none + 3) (ecS w b ++ [10]).length, fM w z e1 e2 R none t n ++ [ownB eU8 out, ⟨cellsE eU8 (ecS w b), 1, true, false⟩, ownB eU8 [10], ownB eU8 (ecS w b ++ [10])]) := by
      have := ap_gen (fM w z e1 e2 R none t n ++ [ownB eU8 out]) (fK z R none + 1) (by rw [List.length_append, hl]; rfl) (ecS w b) [10] (by have := ecS_len w b; simp; omega)
      rw [List.append_assoc, List.append_assoc] at this
      exact this
    have rX := rt_any w z e1 e2 h1 h2 R none none rfl t n [ownB eU8 out, ⟨cellsE eU8 (ecS w b), 1, true, false⟩, ownB eU8 [10], ownB eU8 (ecS w b ++ [10])] 3 (fK z R none + 3) (ecS w b ++ [10]) rfl (by omega) [.int .u8 b]
    have hl2 : (fM w z e1 e2 R none t n ++ [ownB eU8 out, ownB eU8 (ecS w b)]).length = fK z R none + 2 := by rw [List.length_append, hl]; rfl
    have hM3 : (fM w z e1 e2 R none t n ++ [ownB eU8 out, ownB eU8 (ecS w b)]) ++ [⟨[.int .u8 10], 1, true, true⟩] = fM w z e1 e2 R none t n ++ [ownB eU8 out, ownB eU8 (ecS w b), ownB eU8 [10]] := by rw [List.append_assoc]; rfl
    have hLX : (ecS w b ++ [10]).length = (ecS w b).length + 1 := by simp
    rw [hLX] at rX hap
    unfold gnO
    generalize fM w z e1 e2 R none t n ++ [ownB eU8 out, ⟨cellsE eU8 (ecS w b), 1, true, false⟩, ownB eU8 [10], ownB eU8 (ecS w b ++ [10])] = M4 at *
    generalize fM w z e1 e2 R none t n ++ [ownB eU8 out, ownB eU8 (ecS w b), ownB eU8 [10]] = M3 at *
    generalize fM w z e1 e2 R none t n ++ [ownB eU8 out, ownB eU8 (ecS w b)] = M2 at *
    generalize hMd : fM w z e1 e2 R none t n ++ [ownB eU8 out] = M at *
    generalize fM w z e1 e2 R none t n = F0 at *
    generalize hKK : fK z R none = K at *
    generalize hRB : zN z + (rB R).length = RB at *
    cases b4 : hs w 4 <;> cases b8 : hs w 8 <;> cases b2 : hs w 2 <;> rw [b4] at k4 <;> rw [b8] at k8 <;> rw [b2] at k2 <;> simp -implicitDefEqProofs [-pO, -pP, -fcall_eq, L_spec_l11Gone, hld, k4, k8, k2, ke2, rA, rE, hap, rX, hl2, hM3, hMd]
def goneS (w : WayT) (c : List Int) (b : Int) : List Int × List Int :=
  if isS w.b b then (if c = [] then ([], gnO w b [] false) else (c.take (laE c), gnO w b (drO w c) false)) else if isS w.d b then ((wordS w c).1, gnO w b (wordS w c).2 false) else ((dwS w (fun _ => true) c.length c).1, gnO w b (dwS w (fun _ => true) c.length c).2 true)
theorem x_Gone (w : WayT) (z : Zt) (e1 e2 : Value) (h1 : inert e1 = true) (h2 : inert e2 = true) (R : Option (List (List Int))) (E : EdT) (t : Bool) (n b : Int) (hE : wfE E) (hb0 : 0 ≤ b) (hb1 : b < 256) : ∃ E', okE E E' ∧ wfE E' ∧ fK z R E' = fK z R E ∧ oE E' = (goneS w (oE E) b).1 ∧ X_spec_l11Gone [ptr0, pP z 1, .int .u8 b] (fM w z e1 e2 R E t n) = some (slO (fK z R E) (goneS w (oE E) b).2.length, fM w z e1 e2 R E' t n ++ [ownB eU8 (goneS w (oE E) b).2]) := by
  have hl := fM_len w z e1 e2 R E t n
  have i1 := f_Is w.b b hb0 hb1
  have i2 := f_Is w.d b hb0 hb1
  have hbs : fM w z e1 e2 R E t n ++ [⟨[], 1, true, true⟩] = fM w z e1 e2 R E t n ++ [ownB eU8 []] := rfl
  have hw1 : ld1 (fM w z e1 e2 R E t n ++ [ownB eU8 []]) (.pointer (some ⟨0, 1, none⟩)) = some (.int .i64 w.b) := by simp
  have hw3 : ld1 (fM w z e1 e2 R E t n ++ [ownB eU8 []]) (.pointer (some ⟨0, 3, none⟩)) = some (.int .i64 w.d) := by simp
  have hld : ld1 (fM w z e1 e2 R E t n ++ [ownB eU8 []]) (.pointer (some ⟨1, pO z + 1, none⟩)) = some (eV (zN z + (rB R).length) E) := by rcases R with _ | r <;> rcases E with _ | ⟨c, j, m⟩ <;> cases z <;> simp
  have hlen : lenX (eV (zN z + (rB R).length) E) = some (.int .i64 (oE E).length) := by rcases E with _ | ⟨c, j, m⟩ <;> rfl
  cases c1 : isS w.b b
  · cases c2 : isS w.d b
    · -- all of it
      unfold goneS
      simp only [c1, c2, Bool.false_eq_true, if_false]
      rcases E with _ | ⟨c, j, m⟩
      · have h := l_GoneN w z e1 e2 h1 h2 R t n b [] (QQ - 1) (by simp)
        rw [show QQ - 1 + 1 = QQ from by unfold QQ; rfl] at h
        have hcut := cut_g w z e1 e2 h1 h2 R none t n [ownB eU8 []] 0 (fK z R none) [] b true rfl (by omega) (L_spec_l11Gone (fK z R none) QQ 0)
        refine ⟨none, trivial, trivial, rfl, rfl, Eq.trans ?_ h⟩
        rw [List.length_nil] at hcut ⊢
        refine Eq.trans ?_ hcut
        rw [c1] at i1
        rw [c2] at i2
        generalize fM w z e1 e2 R none t n ++ [ownB eU8 []] = M1 at *
        generalize fM w z e1 e2 R none t n = M at *
        generalize fK z R none = K at *
        simp -implicitDefEqProofs [-pO, -pP, -fcall_eq, X_spec_l11Gone, hbs, hl, hw1, hw3, i1, i2]
      · obtain ⟨hm, hc⟩ := hE
        obtain ⟨j', g1, h⟩ := l_Gone w z e1 e2 h1 h2 R m t n b c.length c j [] QQ (Nat.le_refl _) (by omega) hm (by unfold QQ; omega) (by simp; omega)
        have hcut := cut_g w z e1 e2 h1 h2 R (some (c, j, m)) t n [ownB eU8 []] 0 (fK z R (some (c, j, m))) [] b true rfl (by omega) (L_spec_l11Gone (fK z R (some (c, j, m))) QQ 0)
        have hd := dwS_len w (fun _ => true) c.length c
        rw [List.nil_append] at h
        refine ⟨some ((dwS w (fun _ => true) c.length c).1, j', m), ⟨c, j, m, rfl, g1⟩, ⟨by omega, by omega⟩, rfl, rfl, Eq.trans ?_ h⟩
        rw [List.length_nil] at hcut ⊢
        refine Eq.trans ?_ hcut
        rw [c1] at i1
        rw [c2] at i2
        generalize fM w z e1 e2 R (some (c, j, m)) t n ++ [ownB eU8 []] = M1 at *
        generalize fM w z e1 e2 R (some (c, j, m)) t n = M at *
        generalize fK z R (some (c, j, m)) = K at *
        simp -implicitDefEqProofs [-pO, -pP, -fcall_eq, X_spec_l11Gone, hbs, hl, hw1, hw3, i1, i2]
    · -- a word
      obtain ⟨E', o1, o2, hk, o3, hX⟩ := x_Word w z e1 e2 h1 h2 R E t n hE
      have hX1 := hX []
      clear hX
      have hl1 : (fM w z e1 e2 R E' t n).length = fK z R E := by rw [fM_len, hk]
      have m0 : (fM w z e1 e2 R E' t n ++ [ownB eU8 [], ownB eU8 (wordS w (oE E)).2])[0]? = some (wB w) := rfl
      have k4 := f_Has w 4 _ m0
      have ke := f_Echo w b _ m0
      rw [List.append_assoc, List.length_append, hl1] at ke
      have ke2 : fcall X_spec_l11Echo [ptr0, .int .u8 b] (fM w z e1 e2 R E' t n ++ [ownB eU8 [], ownB eU8 (wordS w (oE E)).2]) = some (slO (fK z R E + 2) (ecS w b).length, fM w z e1 e2 R E' t n ++ [ownB eU8 [], ownB eU8 (wordS w (oE E)).2, ownB eU8 (ecS w b)]) := ke
      clear ke
      have rA := rt_any w z e1 e2 h1 h2 R E E' hk t n [ownB eU8 [], ownB eU8 (wordS w (oE E)).2] 1 (fK z R E + 1) (wordS w (oE E)).2 rfl (by omega) [.int .u8 b]
      have rE := rt_any w z e1 e2 h1 h2 R E E' hk t n [ownB eU8 [], ownB eU8 (wordS w (oE E)).2, ownB eU8 (ecS w b)] 2 (fK z R E + 2) (ecS w b) rfl (by omega) [.int .u8 b]
      refine ⟨E', o1, o2, hk, ?_, ?_⟩
      · unfold goneS
        simp only [c1, c2, Bool.false_eq_true, if_false, if_true]
        exact o3
      unfold goneS
      simp only [c1, c2, Bool.false_eq_true, if_false, if_true]
      rw [c1] at i1
      rw [c2] at i2
      generalize (wordS w (oE E)).2 = O at *
      unfold gnO
      generalize fM w z e1 e2 R E' t n ++ [ownB eU8 [], ownB eU8 O, ownB eU8 (ecS w b)] = M3 at *
      generalize fM w z e1 e2 R E' t n ++ [ownB eU8 [], ownB eU8 O] = M2 at *
      generalize fM w z e1 e2 R E' t n = F at *
      generalize fM w z e1 e2 R E t n ++ [ownB eU8 []] = M1 at *
      generalize fM w z e1 e2 R E t n = M at *
      generalize fK z R E = K at *
      generalize hEV : eV (zN z + (rB R).length) E = ev at *
      generalize hOE : oE E = oe at *
      cases b4 : hs w 4 <;> rw [b4] at k4 <;> simp -implicitDefEqProofs [-pO, -pP, -fcall_eq, -rcall_eq, X_spec_l11Gone, hbs, hl, hw1, hw3, i1, i2, hX1, k4, ke2, rA, rE, hld, hlen]
  · by_cases h0 : oE E = []
    · have hl1 : (fM w z e1 e2 R E t n).length = fK z R E := by rw [fM_len]
      have m0 : (fM w z e1 e2 R E t n ++ [ownB eU8 []])[0]? = some (wB w) := rfl
      have k4 := f_Has w 4 _ m0
      have ke := f_Echo w b _ m0
      rw [List.append_assoc, List.length_append, hl1] at ke
      have ke2 : fcall X_spec_l11Echo [ptr0, .int .u8 b] (fM w z e1 e2 R E t n ++ [ownB eU8 []]) = some (slO (fK z R E + 1) (ecS w b).length, fM w z e1 e2 R E t n ++ [ownB eU8 [], ownB eU8 (ecS w b)]) := ke
      clear ke
      have rA := rt_any w z e1 e2 h1 h2 R E E rfl t n [ownB eU8 []] 0 (fK z R E) [] rfl (by omega) [.int .u8 b]
      simp only [List.length_nil] at rA
      have rE := rt_any w z e1 e2 h1 h2 R E E rfl t n [ownB eU8 [], ownB eU8 (ecS w b)] 1 (fK z R E + 1) (ecS w b) rfl (by omega) [.int .u8 b]
      refine ⟨E, okE_self E, hE, rfl, ?_, ?_⟩
      · unfold goneS
        simp only [c1, h0, if_true]
      unfold goneS
      simp only [c1, h0, if_true]
      rw [c1] at i1
      rw [h0] at hlen
      simp only [List.length_nil] at hlen
      unfold gnO
      generalize fM w z e1 e2 R E t n ++ [ownB eU8 [], ownB eU8 (ecS w b)] = M3 at *
      generalize hMd : fM w z e1 e2 R E t n ++ [ownB eU8 []] = M1 at *
      generalize fM w z e1 e2 R E t n = M at *
      generalize fK z R E = K at *
      generalize hEV : eV (zN z + (rB R).length) E = ev at *
      cases b4 : hs w 4 <;> rw [b4] at k4 <;> simp -implicitDefEqProofs [-pO, -pP, -fcall_eq, -rcall_eq, X_spec_l11Gone, hbs, hl, hw1, hw3, i1, h0, k4, ke2, rA, rE, hMd, hld, hlen]
    · rcases E with _ | ⟨c, j, m⟩
      · exact absurd rfl h0
      obtain ⟨hm, hc⟩ := hE
      have h0 : c ≠ [] := h0
      have hp := List.length_pos_iff.2 h0
      have hlt := laE_lt h0
      have hd := rc_drop w z e1 e2 h1 h2 R c j [] m t n (by omega) h0 hm
      have hl1 : (fM w z e1 e2 R (some (c.take (laE c), c.drop (laE c) ++ j, m)) t n).length = fK z R (some (c, j, m)) := fM_len ..
      have m0 : (fM w z e1 e2 R (some (c.take (laE c), c.drop (laE c) ++ j, m)) t n ++ [ownB eU8 [], ownB eU8 (drO w c)])[0]? = some (wB w) := rfl
      have k4 := f_Has w 4 _ m0
      have ke := f_Echo w b _ m0
      rw [List.append_assoc, List.length_append, hl1] at ke
      have ke2 : fcall X_spec_l11Echo [ptr0, .int .u8 b] (fM w z e1 e2 R (some (c.take (laE c), c.drop (laE c) ++ j, m)) t n ++ [ownB eU8 [], ownB eU8 (drO w c)]) = some (slO (fK z R (some (c, j, m)) + 2) (ecS w b).length, fM w z e1 e2 R (some (c.take (laE c), c.drop (laE c) ++ j, m)) t n ++ [ownB eU8 [], ownB eU8 (drO w c), ownB eU8 (ecS w b)]) := ke
      clear ke
      have rA := rt_any w z e1 e2 h1 h2 R (some (c, j, m)) (some (c.take (laE c), c.drop (laE c) ++ j, m)) rfl t n [ownB eU8 [], ownB eU8 (drO w c)] 1 (fK z R (some (c, j, m)) + 1) (drO w c) rfl (by omega) [.int .u8 b]
      have rE := rt_any w z e1 e2 h1 h2 R (some (c, j, m)) (some (c.take (laE c), c.drop (laE c) ++ j, m)) rfl t n [ownB eU8 [], ownB eU8 (drO w c), ownB eU8 (ecS w b)] 2 (fK z R (some (c, j, m)) + 2) (ecS w b) rfl (by omega) [.int .u8 b]
      have eo : oE (some (c, j, m)) = c := rfl
      rw [eo] at hlen ⊢
      refine ⟨some (c.take (laE c), c.drop (laE c) ++ j, m), ⟨c, j, m, rfl, by rw [← List.append_assoc, List.take_append_drop]⟩, ⟨by simp; omega, by simp; omega⟩, rfl, ?_, ?_⟩
      · unfold goneS
        simp only [c1, h0, if_true, if_false]
      unfold goneS
      simp only [c1, h0, if_true, if_false]
      rw [c1] at i1
      unfold gnO
      generalize fM w z e1 e2 R (some (c.take (laE c), c.drop (laE c) ++ j, m)) t n ++ [ownB eU8 [], ownB eU8 (drO w c), ownB eU8 (ecS w b)] = M3 at *
      generalize fM w z e1 e2 R (some (c.take (laE c), c.drop (laE c) ++ j, m)) t n ++ [ownB eU8 [], ownB eU8 (drO w c)] = M2 at *
      generalize fM w z e1 e2 R (some (c.take (laE c), c.drop (laE c) ++ j, m)) t n = F at *
      generalize fM w z e1 e2 R (some (c, j, m)) t n ++ [ownB eU8 []] = M1 at *
      generalize fM w z e1 e2 R (some (c, j, m)) t n = M at *
      generalize fK z R (some (c, j, m)) = K at *
      generalize hRB : zN z + (rB R).length = RB at *
      cases b4 : hs w 4 <;> rw [b4] at k4 <;> simp -implicitDefEqProofs [-pO, -pP, -fcall_eq, -rcall_eq, X_spec_l11Gone, hbs, hl, hw1, hw3, i1, hp, hd, k4, ke2, rA, rE, hld, hlen]
end Go.Ab
namespace Go.Ab
set_option maxHeartbeats 4000000
theorem s_l11SizeP (R : Option (List (List Int))) (E : EdT) (t : Bool) (n : Int) (h40 : (oR R).length ≤ 40) (hl : (lnO R E t n).small) : X_spec_l11Size [roP [frS eBS (oR R), frS eU8 (oE E), .bool t, .int .i64 n]] [] = some (.int .i64 ((lnO R E t n).size : Nat), []) := s_spec_l11Size (lnO R E t n) hl h40 []
theorem apL_nilsl24 {m : Mem} {n2 o2 c2 : Nat} : apL m 1 24 (.slice none 0 0) (.slice (some ⟨n2, o2, none⟩) 1 c2) = bo (fun cs => some (.slice (some ⟨m.length, 0, none⟩) 1 1, m ++ [⟨cs, 1, true, true⟩])) (rdM m[n2]? o2 (1 * 1)) := apL_nilsl (by omega)
theorem apB_ownS {m : Mem} {l : List (List Int)} {n : Nat} {cs : List Value} {k : Nat} : apB m (some (ownB eBS l)) n 0 l.length 1 cs k = some (slO m.length (l.length + k), m.set n ⟨cellsE eBS l, 1, true, false⟩ ++ [⟨cellsE eBS l ++ cs, 1, true, true⟩]) := apB_own rfl
theorem cellsBS_all (l : List (List Int)) : (cellsE eBS l).all inert = true := by
  have := cellsE_all eBS l
  rw [List.all_eq_true] at this ⊢
  exact fun x hx => scal_inert x (this x hx)
theorem cellsBS_flat (l : List (List Int)) : (cellsE eBS l).all flat = true := by
  have := cellsE_all eBS l
  rw [List.all_eq_true] at this ⊢
  intro x hx
  have h := this x hx
  cases x <;> first | rfl | simp [scal] at h
theorem bs_one (x : List Int) : (⟨[frS eU8 x], 1, true, true⟩ : Blk) = ownB eBS [x] := rfl
theorem bs_app (l : List (List Int)) (x : List Int) : (⟨cellsE eBS l ++ [frS eU8 x], 1, true, true⟩ : Blk) = ownB eBS (l ++ [x]) := by
  rw [← mk_own2 eBS _ _ 1 rfl]
  rfl
theorem fz_cellsBS (k : Nat) (m : Mem) (l : List (List Int)) (r : List Value) : mapO (fz (k + 1) m) (cellsE eBS l ++ r) = bo (fun ys => some (cellsE eBS l ++ ys)) (mapO (fz (k + 1) m) r) := by
  induction l with
  | nil => show mapO (fz (k + 1) m) r = _; cases mapO (fz (k + 1) m) r <;> rfl
  | cons x l ih =>
    rw [cellsE_cons]
    show mapO (fz (k + 1) m) (frS eU8 x :: (cellsE eBS l ++ r)) = _
    rw [mapO_cons, fz_frS, bo_some, ih]
    cases mapO (fz (k + 1) m) r <;> rfl
theorem rn_cellsBS (k : Nat) (π : Nat → Option Nat) (l : List (List Int)) (r : List Value) : mapO (rnV (k + 1) inert π) (cellsE eBS l ++ r) = bo (fun ys => some (cellsE eBS l ++ ys)) (mapO (rnV (k + 1) inert π) r) := rn_scal (cellsE_all eBS l)
theorem nm_cellsBS (k : Nat) (l : List (List Int)) : (cellsE eBS l).flatMap (nmV (k + 1)) = [] := nm_scal (cellsE_all eBS l)
theorem bs_one0 : (⟨[roS 0 []], 1, true, true⟩ : Blk) = ownB eBS [[]] := rfl
theorem bs_app0 (l : List (List Int)) : (⟨cellsE eBS l ++ [roS 0 []], 1, true, true⟩ : Blk) = ownB eBS (l ++ [[]]) := bs_app l []
theorem apL_nl {m : Mem} {n len c : Nat} (hk : len < 1000000000) : apL m 1 1 (.slice (some ⟨n, 0, none⟩) len c) (.slice none 0 0) = apB m m[n]? n 0 len 1 [] 0 := by
  show appendIn m 1 1 (.slice (some ⟨n, 0, none⟩) len c) [] 0 = _
  unfold appendIn apB
  simp only
  cases hm : m[n]? with
  | none => rfl
  | some b =>
    simp only
    have h2 : (len + 0) * 1 ≤ 140737488355328 := by omega
    have h3 : len + 0 ≤ 140737488355328 := by omega
    by_cases hb : b.live = true ∧ b.own = true ∧ b.es = 1
    · rw [if_pos ⟨hb.1, hb.2.1, hb.2.2, h2, h3⟩, if_pos hb]
      have hr : rd m n 0 (len * 1) = fzO.rdB b 0 (len * 1) := by
        unfold rd fzO.rdB
        split
        · rfl
        · rw [hm]
      rw [hr]
      cases fzO.rdB b 0 (len * 1) <;> rfl
    · rw [if_neg (fun h => hb ⟨h.1, h.2.1, h.2.2.1⟩), if_neg hb]
theorem fz_00 (k : Nat) (m : Mem) (b : Option Blk) (o : Nat) : fzO k m b o 0 = some (roS 0 []) := by
  unfold fzO
  rw [if_pos rfl]
abbrev endOk (R : Option (List (List Int))) (E : EdT) (t : Bool) (n : Int) (k : Nat) : Prop := (oR R).length < 40 ∧ (lnO R E t n).size + k ≤ 40
abbrev enM (w : WayT) (z : Zt) (e1 e2 : Value) (R : Option (List (List Int))) (E : EdT) (t : Bool) (n : Int) (q : Mem) (x : List Int) : Mem := wB w :: lBk z e1 e2 (slO (fK z R E + q.length) ((oR R).length + 1)) (.slice none 0 0) t n :: (hB z ++ (rD R ++ (eB' E ++ (q ++ [ownB eBS (oR R ++ [x]), ⟨cellsE eU8 x, 1, false, true⟩]))))
theorem e_Ends0 (w : WayT) (z : Zt) (e1 e2 : Value) (h1 : inert e1 = true) (h2 : inert e2 = true) (R : Option (List (List Int))) (E : EdT) (t : Bool) (n : Int) (h40 : (oR R).length ≤ 40) (hl : (lnO R E t n).small) : rcall (zX X_spec_l11Ends) [pP z 1, .slice none 0 0] (fM w z e1 e2 R E t n) = if endOk R E t n 0 then some (.bool true, enM w z e1 e2 R E t n [] (oE E)) else some (.bool false, fM w z e1 e2 R E t n) := by
  have c := s_l11SizeP R E t n h40 hl
  have c2 := s_spec_l1Copy (oE E) hl.2.2
  have n1 : nmV 8 e1 = [] := inert_nm h1
  have n2 : nmV 8 e2 = [] := inert_nm h2
  have r1 : ∀ π, rnV 8 inert π e1 = some e1 := fun π => rnV_p h1
  have r2 : ∀ π, rnV 8 inert π e2 = some e2 := fun π => rnV_p h2
  have hsz : (lnO R E t n).size < 1000000000000 := size_le hl h40
  have hcu := hl.2.2
  unfold endOk
  generalize (lnO R E t n).size = S at *
  have hw : IntKind.i64.wrap (S : Int) = S := wrap_i64 (by omega) (by omega)
  by_cases hr : 40 ≤ (oR R).length
  · rw [if_neg (by omega)]
    have hr' : (40 : Int) ≤ (oR R).length := by omega
    rcases R with _ | r <;> rcases E with _ | ⟨cu, j, m⟩ <;> cases z <;> simp [frS_nil] at c c2 hr' <;> simp -implicitDefEqProofs [fK, zX, X_spec_l11Ends, retK_eq, hE, c, c2, hr', h1, h2, n1, n2, r1, r2]
  · by_cases hs : 40 < S
    · rw [if_neg (by omega)]
      have hs' : (40 : Int) < S := by omega
      have hr' : ¬ (40 : Int) ≤ (oR R).length := by omega
      rcases R with _ | r
      · rcases E with _ | ⟨cu, j, m⟩ <;> cases z <;> simp [frS_nil] at c c2 <;> simp -implicitDefEqProofs [fK, zX, X_spec_l11Ends, retK_eq, hE, c, c2, hw, hs', h1, h2, n1, n2, r1, r2]
      · have hr3 : ¬ (40 : Int) ≤ r.length := hr'
        rcases E with _ | ⟨cu, j, m⟩ <;> cases z <;> simp [frS_nil] at c c2 <;> simp -implicitDefEqProofs [fK, zX, X_spec_l11Ends, retK_eq, hE, c, c2, hr3, hw, hs', h1, h2, n1, n2, r1, r2]
    · rw [if_pos (by omega)]
      have hs' : ¬ (40 : Int) < S := by omega
      have hr' : ¬ (40 : Int) ≤ (oR R).length := by omega
      have a1 := fun m n c => apL_nl (m := m) (n := n) (len := (oE E).length) (c := c) (by omega)
      have b1 := fun m n cs k => apB_own (E := eU8) (m := m) (l := oE E) (n := n) (sz := 1) (cs := cs) (k := k) rfl
      have p1 := fun m n o c k o2 c2 => apL_sl (m := m) (sz := 1) (bytes := 24) (n := n) (o := o) (len := (oR R).length) (c := c) (n2 := k) (o2 := o2) (len2 := 1) (c2 := c2) (by omega) (by omega)
      have f1 : ∀ k m, fzO (k + 1) m (some (ownB eU8 (oE E))) 0 (oE E).length = some (frS eU8 (oE E)) := fun k m => fzO_own eU8 k m _
      rcases R with _ | r
      · rcases E with _ | ⟨cu, j, m⟩ <;> cases z <;> simp [frS_nil, fz_00] at c c2 a1 b1 p1 f1 <;> simp -implicitDefEqProofs [fK, zX, X_spec_l11Ends, retK_eq, hE, c, c2, hw, hs', h1, h2, n1, n2, r1, r2, a1, b1, p1, f1, fz_00, apL_nilsl24, apB_ownS, fz_cellsBS, rn_cellsBS, nm_cellsBS, cellsBS_all, cellsBS_flat, rd_one, bs_app, bs_one, bs_one0, bs_app0, frS_nil]
      · have hr3 : ¬ (40 : Int) ≤ r.length := hr'
        rcases E with _ | ⟨cu, j, m⟩ <;> cases z <;> simp [frS_nil, fz_00] at c c2 a1 b1 p1 f1 <;> simp -implicitDefEqProofs [fK, zX, X_spec_l11Ends, retK_eq, hE, c, c2, hr3, hw, hs', h1, h2, n1, n2, r1, r2, a1, b1, p1, f1, fz_00, apL_nilsl24, apB_ownS, fz_cellsBS, rn_cellsBS, nm_cellsBS, cellsBS_all, cellsBS_flat, rd_one, bs_app, bs_one, bs_one0, bs_app0, frS_nil]
end Go.Ab
namespace Go.Ab
set_option maxHeartbeats 4000000
theorem rd_ten (b : Int) : rdM (some (ownB eU8 [b])) 0 1 = some [.int .u8 b] := rfl
theorem u8_ten (b : Int) : (⟨cellsE eU8 [] ++ [.int .u8 b], 1, true, true⟩ : Blk) = ownB eU8 [b] := rfl
theorem e_Ends1 (w : WayT) (z : Zt) (e1 e2 : Value) (h1 : inert e1 = true) (h2 : inert e2 = true) (R : Option (List (List Int))) (E : EdT) (t : Bool) (n : Int) (h40 : (oR R).length ≤ 40) (hl : (lnO R E t n).small) (hc1 : (oE E).length + 1 < 1000000000) : rcall (zX X_spec_l11Ends) [pP z 1, slO (fK z R E) 1] (fM w z e1 e2 R E t n ++ [ownB eU8 [10]]) = if endOk R E t n 1 then some (.bool true, enM w z e1 e2 R E t n [ownB eU8 [10]] (oE E ++ [10])) else some (.bool false, fM w z e1 e2 R E t n ++ [ownB eU8 [10]]) := by
  have c := s_l11SizeP R E t n h40 hl
  have c2 := s_spec_l1Copy (oE E) hl.2.2
  have n1 : nmV 8 e1 = [] := inert_nm h1
  have n2 : nmV 8 e2 = [] := inert_nm h2
  have r1 : ∀ π, rnV 8 inert π e1 = some e1 := fun π => rnV_p h1
  have r2 : ∀ π, rnV 8 inert π e2 = some e2 := fun π => rnV_p h2
  have hsz : (lnO R E t n).size < 1000000000000 := size_le hl h40
  have hcu := hl.2.2
  unfold endOk
  generalize (lnO R E t n).size = S at *
  have hw : IntKind.i64.wrap ((S : Int) + 1) = (S : Int) + 1 := wrap_i64 (by omega) (by omega)
  by_cases hr : 40 ≤ (oR R).length
  · rw [if_neg (by omega)]
    have hr' : (40 : Int) ≤ (oR R).length := by omega
    rcases R with _ | r <;> rcases E with _ | ⟨cu, j, m⟩ <;> cases z <;> simp [frS_nil] at c c2 hr' <;> simp -implicitDefEqProofs [fK, zX, X_spec_l11Ends, retK_eq, hE, c, c2, hr', h1, h2, n1, n2, r1, r2]
  · by_cases hs : 40 < S + 1
    · rw [if_neg (by omega)]
      have hs' : (40 : Int) < (S : Int) + 1 := by omega
      have hr' : ¬ (40 : Int) ≤ (oR R).length := by omega
      rcases R with _ | r
      · rcases E with _ | ⟨cu, j, m⟩ <;> cases z <;> simp [frS_nil] at c c2 <;> simp -implicitDefEqProofs [fK, zX, X_spec_l11Ends, retK_eq, hE, c, c2, hw, hs', h1, h2, n1, n2, r1, r2]
      · have hr3 : ¬ (40 : Int) ≤ r.length := hr'
        rcases E with _ | ⟨cu, j, m⟩ <;> cases z <;> simp [frS_nil] at c c2 <;> simp -implicitDefEqProofs [fK, zX, X_spec_l11Ends, retK_eq, hE, c, c2, hr3, hw, hs', h1, h2, n1, n2, r1, r2]
    · rw [if_pos (by omega)]
      have hs' : ¬ (40 : Int) < (S : Int) + 1 := by omega
      have hr' : ¬ (40 : Int) ≤ (oR R).length := by omega
      have a1 := fun m n o c k o2 c2 => apL_sl (m := m) (sz := 1) (bytes := 1) (n := n) (o := o) (len := (oE E).length) (c := c) (n2 := k) (o2 := o2) (len2 := 1) (c2 := c2) (by omega) (by omega)
      have b1 := fun m n cs k => apB_own (E := eU8) (m := m) (l := oE E) (n := n) (sz := 1) (cs := cs) (k := k) rfl
      have p1 := fun m n o c k o2 c2 => apL_sl (m := m) (sz := 1) (bytes := 24) (n := n) (o := o) (len := (oR R).length) (c := c) (n2 := k) (o2 := o2) (len2 := 1) (c2 := c2) (by omega) (by omega)
      have f1 : ∀ k m, fzO (k + 1) m (some (ownB eU8 (oE E ++ [10]))) 0 ((oE E).length + 1) = some (frS eU8 (oE E ++ [10])) := fun k m => by have := fzO_own eU8 k m (oE E ++ [10]); simpa using this
      rcases R with _ | r
      · rcases E with _ | ⟨cu, j, m⟩ <;> cases z <;> simp [frS_nil, fz_00] at c c2 a1 b1 p1 f1 <;> simp -implicitDefEqProofs [fK, zX, X_spec_l11Ends, retK_eq, hE, c, c2, hw, hs', h1, h2, n1, n2, r1, r2, a1, b1, p1, f1, fz_00, apL_nilsl24, apB_ownS, fz_cellsBS, rn_cellsBS, nm_cellsBS, cellsBS_all, cellsBS_flat, rd_one, rd_ten, u8_app, u8_ten, bs_app, bs_one, bs_one0, bs_app0, frS_nil]
      · have hr3 : ¬ (40 : Int) ≤ r.length := hr'
        rcases E with _ | ⟨cu, j, m⟩ <;> cases z <;> simp [frS_nil, fz_00] at c c2 a1 b1 p1 f1 <;> simp -implicitDefEqProofs [fK, zX, X_spec_l11Ends, retK_eq, hE, c, c2, hr3, hw, hs', h1, h2, n1, n2, r1, r2, a1, b1, p1, f1, fz_00, apL_nilsl24, apB_ownS, fz_cellsBS, rn_cellsBS, nm_cellsBS, cellsBS_all, cellsBS_flat, rd_one, rd_ten, u8_app, u8_ten, bs_app, bs_one, bs_one0, bs_app0, frS_nil]
end Go.Ab
namespace Go.Ab
set_option maxHeartbeats 4000000
theorem rt_formZ (w : WayT) (z : Zt) (e1 e2 : Value) (h1 : inert e1 = true) (h2 : inert e2 = true) (R : Option (List (List Int))) (E : EdT) (t : Bool) (n : Int) (o : List Int) (rr : List (List Int)) (x : Blk) (r : List Value) : retK (fK z R E) ((Fm.n rr E).mem w z e1 e2 R E t n [ownB eU8 o] ++ [x]) (.pointer (some ⟨0, 0, none⟩) :: pP z 1 :: r) (slO (fK z R E) o.length) = some (slO (fK z R E) o.length, (Fm.n rr E).mem w z e1 e2 R E t n [ownB eU8 o]) := by
  have n1 : nmV 8 e1 = [] := inert_nm h1
  have n2 : nmV 8 e2 = [] := inert_nm h2
  have r1 : ∀ π, rnV 8 inert π e1 = some e1 := fun π => rnV_p h1
  have r2 : ∀ π, rnV 8 inert π e2 = some e2 := fun π => rnV_p h2
  rcases R with _ | r <;> rcases E with _ | ⟨cu, j, m⟩ <;> cases z <;> simp -implicitDefEqProofs [fK, Fm.mem, retK_eq, h1, h2, n1, n2, r1, r2]
theorem rt_en0 (w : WayT) (z : Zt) (e1 e2 : Value) (h1 : inert e1 = true) (h2 : inert e2 = true) (R : Option (List (List Int))) (E : EdT) (t : Bool) (n : Int) (o x : List Int) (r : List Value) : retK (fK z R E) (enM w z e1 e2 R E t n [] x ++ [ownB eU8 o]) (.pointer (some ⟨0, 0, none⟩) :: pP z 1 :: r) (slO (fK z R E + 2) o.length) = some (slO (fK z R E) o.length, (Fm.n (oR R ++ [x]) none).mem w z e1 e2 R E t n [ownB eU8 o]) := by
  have n1 : nmV 8 e1 = [] := inert_nm h1
  have n2 : nmV 8 e2 = [] := inert_nm h2
  have r1 : ∀ π, rnV 8 inert π e1 = some e1 := fun π => rnV_p h1
  have r2 : ∀ π, rnV 8 inert π e2 = some e2 := fun π => rnV_p h2
  rcases R with _ | r <;> rcases E with _ | ⟨cu, j, m⟩ <;> cases z <;> simp -implicitDefEqProofs [fK, Fm.mem, enM, retK_eq, h1, h2, n1, n2, r1, r2]
theorem rt_en1 (w : WayT) (z : Zt) (e1 e2 : Value) (h1 : inert e1 = true) (h2 : inert e2 = true) (R : Option (List (List Int))) (E : EdT) (t : Bool) (n : Int) (o x y : List Int) (r : List Value) : retK (fK z R E) (enM w z e1 e2 R E t n [ownB eU8 y] x ++ [ownB eU8 o]) (.pointer (some ⟨0, 0, none⟩) :: pP z 1 :: r) (slO (fK z R E + 3) o.length) = some (slO (fK z R E) o.length, (Fm.n (oR R ++ [x]) none).mem w z e1 e2 R E t n [ownB eU8 o]) := by
  have n1 : nmV 8 e1 = [] := inert_nm h1
  have n2 : nmV 8 e2 = [] := inert_nm h2
  have r1 : ∀ π, rnV 8 inert π e1 = some e1 := fun π => rnV_p h1
  have r2 : ∀ π, rnV 8 inert π e2 = some e2 := fun π => rnV_p h2
  rcases R with _ | r <;> rcases E with _ | ⟨cu, j, m⟩ <;> cases z <;> simp -implicitDefEqProofs [fK, Fm.mem, enM, retK_eq, h1, h2, n1, n2, r1, r2]
theorem e_Raw (w : WayT) (z : Zt) (e1 e2 : Value) (h1 : inert e1 = true) (h2 : inert e2 = true) (R : Option (List (List Int))) (E : EdT) (t : Bool) (n b : Int) (h40 : (oR R).length ≤ 40) (hl : (lnO R E t n).small) : rcall (zX X_spec_l11Raw) [ptr0, pP z 1, .int .u8 b] (fM w z e1 e2 R E t n) = if (oR R).length < 40 ∧ (lnO R E t n).size < 40 then some (slO (fK z R E) (ecS w b).length, (Fm.n (oR R ++ [[b]]) E).mem w z e1 e2 R E t n [ownB eU8 (ecS w b)] ++ [⟨[.int .u8 b], 1, false, true⟩]) else some (slO (fK z R E) 0, fM w z e1 e2 R E t n ++ [ownB eU8 []]) := by
  have c := s_l11SizeP R E t n h40 hl
  have ce := s_l11Echo w [] b
  have n1 : nmV 8 e1 = [] := inert_nm h1
  have n2 : nmV 8 e2 = [] := inert_nm h2
  have r1 : ∀ π, rnV 8 inert π e1 = some e1 := fun π => rnV_p h1
  have r2 : ∀ π, rnV 8 inert π e2 = some e2 := fun π => rnV_p h2
  have es : (⟨[], 1, true, true⟩ : Blk) = ownB eU8 [] := rfl
  have hsz : (lnO R E t n).size < 1000000000000 := size_le hl h40
  generalize (lnO R E t n).size = S at *
  by_cases hr : 40 ≤ (oR R).length
  · rw [if_neg (by omega)]
    have hr' : (40 : Int) ≤ (oR R).length := by omega
    rcases R with _ | r <;> rcases E with _ | ⟨cu, j, m⟩ <;> cases z <;> simp [frS_nil] at c hr' <;> simp -implicitDefEqProofs [fK, zX, X_spec_l11Raw, retK_eq, hE, c, hr', h1, h2, n1, n2, r1, r2, es]
  · by_cases hs : 40 ≤ S
    · rw [if_neg (by omega)]
      have hs' : (40 : Int) ≤ S := by omega
      have hr' : ¬ (40 : Int) ≤ (oR R).length := by omega
      rcases R with _ | r
      · rcases E with _ | ⟨cu, j, m⟩ <;> cases z <;> simp [frS_nil] at c <;> simp -implicitDefEqProofs [fK, zX, X_spec_l11Raw, retK_eq, hE, c, hs, hs', h1, h2, n1, n2, r1, r2, es]
      · have hr3 : ¬ (40 : Int) ≤ r.length := hr'
        rcases E with _ | ⟨cu, j, m⟩ <;> cases z <;> simp [frS_nil] at c <;> simp -implicitDefEqProofs [fK, zX, X_spec_l11Raw, retK_eq, hE, c, hr3, hs, hs', h1, h2, n1, n2, r1, r2, es]
    · rw [if_pos (by omega)]
      have hs' : ¬ (40 : Int) ≤ S := by omega
      have hr' : ¬ (40 : Int) ≤ (oR R).length := by omega
      have p1 := fun m n o c k o2 c2 => apL_sl (m := m) (sz := 1) (bytes := 24) (n := n) (o := o) (len := (oR R).length) (c := c) (n2 := k) (o2 := o2) (len2 := 1) (c2 := c2) (by omega) (by omega)
      have f1 : ∀ k m, fzO (k + 1) m (some ⟨[.int .u8 b], 1, true, true⟩) 0 1 = some (frS eU8 [b]) := fun k m => fzO_own eU8 k m [b]
      rcases R with _ | r
      · rcases E with _ | ⟨cu, j, m⟩ <;> cases z <;> simp [frS_nil] at c p1 <;> simp -implicitDefEqProofs [fK, Fm.mem, zX, X_spec_l11Raw, retK_eq, hE, c, ce, hs, hs', h1, h2, n1, n2, r1, r2, p1, f1, apL_nilsl24, apB_ownS, fz_cellsBS, rn_cellsBS, nm_cellsBS, cellsBS_all, cellsBS_flat, rd_one, bs_app, bs_one]
      · have hr3 : ¬ (40 : Int) ≤ r.length := hr'
        rcases E with _ | ⟨cu, j, m⟩ <;> cases z <;> simp [frS_nil] at c p1 <;> simp -implicitDefEqProofs [fK, Fm.mem, zX, X_spec_l11Raw, retK_eq, hE, c, ce, hr3, hs, hs', h1, h2, n1, n2, r1, r2, p1, f1, apL_nilsl24, apB_ownS, fz_cellsBS, rn_cellsBS, nm_cellsBS, cellsBS_all, cellsBS_flat, rd_one, bs_app, bs_one]
end Go.Ab
