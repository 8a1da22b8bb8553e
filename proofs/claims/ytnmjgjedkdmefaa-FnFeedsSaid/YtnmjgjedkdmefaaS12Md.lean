/- What the functions of the program answer, for all arguments that the theorems name as conditions. -/
import Derived.Test.YtnmjgjedkdmefaaS12Mc
import Derived.Test.YtnmjgjedkdmefaaS12Ma
set_option linter.unusedVariables false
set_option linter.unusedSimpArgs false
namespace Go.Ab
set_option maxHeartbeats 4000000
def Fm.wf : Fm → Prop
  | .u E => wfE E
  | .t c => c.length < 900
  | .n _ E => wfE E
def FdR (w : WayT) (z : Zt) (e1 e2 : Value) (R : Option (List (List Int))) (E : EdT) (r : Option VM) (s : LnT × List Int) : Prop := ∃ (F : Fm) (t : Bool) (n : Int), F.ok E ∧ F.wf ∧ r = some (slO (fK z R E) s.2.length, F.mem w z e1 e2 R E t n [ownB eU8 s.2]) ∧ F.ln R t n = s.1
theorem u_eq (w : WayT) (z : Zt) (e1 e2 : Value) (R : Option (List (List Int))) (E E' : EdT) (t : Bool) (n : Int) (o : List Int) (h : okE E E') (hk : fK z R E' = fK z R E) : (Fm.u E').mem w z e1 e2 R E t n [ownB eU8 o] = fM w z e1 e2 R E' t n ++ [ownB eU8 o] := by
  have e : eB' E' = eB' E := by
    rcases E' with _ | ⟨c', j', m'⟩
    · rcases E with _ | ⟨c, j, m⟩
      · rfl
      · simp [fK] at hk
    · obtain ⟨c, j, m, rfl, h⟩ := h
      simp [h]
  unfold fM Fm.mem
  rw [e, show (Fm.u E').new = [] from rfl, List.append_nil]
  rfl
theorem enM_len (w : WayT) (z : Zt) (e1 e2 : Value) (R : Option (List (List Int))) (E : EdT) (t : Bool) (n : Int) (q : Mem) (x : List Int) : (enM w z e1 e2 R E t n q x).length = fK z R E + q.length + 2 := by
  rcases R with _ | r <;> rcases E with _ | ⟨cu, j, m⟩ <;> simp [enM, fK] <;> omega
def endB (l : LnT) (k : Nat) : Prop := l.rows.length < 40 ∧ l.size + k ≤ 40
instance (l : LnT) (k : Nat) : Decidable (endB l k) := by unfold endB; infer_instance
def takeS (w : WayT) (l : LnT) (b : Int) : LnT × List Int := if 40 < l.size + 2 then (l, []) else (⟨l.rows, l.cur ++ [b], l.t, l.n⟩, ecS w b)
def canonS (w : WayT) (l : LnT) (b : Int) : LnT × List Int :=
  if isS w.g b then (⟨l.rows, l.cur, true, l.n⟩, [])
  else if isS w.b b || (isS w.d b || isS w.c b) then (⟨l.rows, (goneS w l.cur b).1, l.t, l.n⟩, (goneS w l.cur b).2)
  else if isS w.e b then (if endB l 0 then (⟨l.rows ++ [l.cur], [], l.t, l.n⟩, []) else (l, []))
  else if b = 10 then (if endB l 1 then (⟨l.rows ++ [l.cur ++ [10]], [], l.t, l.n⟩, ecS w 10) else (l, []))
  else takeS w l b
theorem take_FdR (w : WayT) (z : Zt) (e1 e2 : Value) (h1 : inert e1 = true) (h2 : inert e2 = true) (R : Option (List (List Int))) (E : EdT) (t : Bool) (n b : Int) (h40 : (oR R).length ≤ 40) (hE : wfE E) (hl : (lnO R E t n).small) : FdR w z e1 e2 R E (rcall X_spec_l11Take [ptr0, pP z 1, .int .u8 b] (fM w z e1 e2 R E t n)) (takeS w (lnO R E t n) b) := by
  have hc : (oE E).length < 900 ∨ E = none := by
    rcases E with _ | ⟨c, j, m⟩
    · exact .inr rfl
    · exact .inl hE.2
  have hc : (oE E).length < 900 := by
    rcases hc with h | rfl
    · exact h
    · simp
  have hX := x_Take w z e1 e2 h1 h2 R E t n b h40 hl (by omega)
  unfold takeF at hX
  unfold takeS
  by_cases hs : 40 < (lnO R E t n).size + 2
  · rw [if_pos hs] at hX ⊢
    exact ⟨.u E, t, n, okE_self E, hE, rc_form w z e1 e2 h1 h2 R E t n t n [] (.u E) (okE_self E) [.int .u8 b] rfl hX, rfl⟩
  · rw [if_neg hs] at hX ⊢
    have hcl : (oE E).length + 2 ≤ 40 := by
      have : (oE E).length ≤ (lnO R E t n).size := Nat.le_add_right _ _
      omega
    exact ⟨.t (oE E ++ [b]), t, n, trivial, by show (oE E ++ [b]).length < 900; rw [List.length_append, List.length_singleton]; omega, rc_form w z e1 e2 h1 h2 R E t n t n (ecS w b) (.t (oE E ++ [b])) trivial [.int .u8 b] rfl hX, rfl⟩
theorem x_Canon (w : WayT) (z : Zt) (e1 e2 : Value) (h1 : inert e1 = true) (h2 : inert e2 = true) (R : Option (List (List Int))) (E : EdT) (t : Bool) (n b : Int) (h40 : (oR R).length ≤ 40) (hE : wfE E) (hl : (lnO R E t n).small) (hb0 : 0 ≤ b) (hb1 : b < 256) : FdR w z e1 e2 R E (X_spec_l11Canon [ptr0, pP z 1, .int .u8 b] (fM w z e1 e2 R E t n)) (canonS w (lnO R E t n) b) := by
  have hlen := fM_len w z e1 e2 R E t n
  have hw1 : ld1 (fM w z e1 e2 R E t n) (.pointer (some ⟨0, 1, none⟩)) = some (.int .i64 w.b) := by simp
  have hw2 : ld1 (fM w z e1 e2 R E t n) (.pointer (some ⟨0, 2, none⟩)) = some (.int .i64 w.c) := by simp
  have hw3 : ld1 (fM w z e1 e2 R E t n) (.pointer (some ⟨0, 3, none⟩)) = some (.int .i64 w.d) := by simp
  have hw4 : ld1 (fM w z e1 e2 R E t n) (.pointer (some ⟨0, 4, none⟩)) = some (.int .i64 w.e) := by simp
  have hw6 : ld1 (fM w z e1 e2 R E t n) (.pointer (some ⟨0, 6, none⟩)) = some (.int .i64 w.g) := by simp
  have i1 := f_Is w.b b hb0 hb1
  have i2 := f_Is w.c b hb0 hb1
  have i3 := f_Is w.d b hb0 hb1
  have i4 := f_Is w.e b hb0 hb1
  have i6 := f_Is w.g b hb0 hb1
  unfold canonS
  cases c6 : isS w.g b
  · rw [if_neg (by simp)]
    cases c1 : (isS w.b b || (isS w.d b || isS w.c b))
    · rw [if_neg (by simp)]
      have c1' : isS w.b b = false ∧ isS w.d b = false ∧ isS w.c b = false := by simpa using c1
      obtain ⟨d1, d3, d2⟩ := c1'
      rw [c6] at i6
      rw [d1] at i1
      rw [d2] at i2
      rw [d3] at i3
      cases c4 : isS w.e b
      · rw [if_neg (by simp)]
        rw [c4] at i4
        by_cases h10 : b = 10
        · subst h10
          rw [if_pos rfl]
          have hq : fM w z e1 e2 R E t n ++ [⟨[.int .u8 10], 1, true, true⟩] = fM w z e1 e2 R E t n ++ [ownB eU8 [10]] := rfl
          have hc1 : (oE E).length + 1 < 1000000000 := by
            rcases E with _ | ⟨c, j, m⟩
            · simp
            · have := hE.2
              show c.length + 1 < _
              omega
          have he := e_Ends1 w z e1 e2 h1 h2 R E t n h40 hl hc1
          by_cases hok : endB (lnO R E t n) 1
          · rw [if_pos (show endOk R E t n 1 from hok)] at he
            rw [if_pos hok]
            have m0 : (enM w z e1 e2 R E t n [ownB eU8 [10]] (oE E ++ [10]))[0]? = some (wB w) := rfl
            have ke := f_Echo w 10 _ m0
            rw [enM_len] at ke
            have ke2 : fcall X_spec_l11Echo [ptr0, .int .u8 10] (enM w z e1 e2 R E t n [ownB eU8 [10]] (oE E ++ [10])) = some (slO (fK z R E + 3) (ecS w 10).length, enM w z e1 e2 R E t n [ownB eU8 [10]] (oE E ++ [10]) ++ [ownB eU8 (ecS w 10)]) := ke
            clear ke
            have hret := rt_en1 w z e1 e2 h1 h2 R E t n (ecS w 10) (oE E ++ [10]) [10] [.int .u8 10]
            refine ⟨.n (oR R ++ [oE E ++ [10]]) none, t, n, trivial, trivial, ?_, rfl⟩
            generalize enM w z e1 e2 R E t n [ownB eU8 [10]] (oE E ++ [10]) ++ [ownB eU8 (ecS w 10)] = M3 at *
            generalize enM w z e1 e2 R E t n [ownB eU8 [10]] (oE E ++ [10]) = M2 at *
            generalize (Fm.n (oR R ++ [oE E ++ [10]]) none).mem w z e1 e2 R E t n [ownB eU8 (ecS w 10)] = M4 at *
            generalize fM w z e1 e2 R E t n ++ [ownB eU8 [10]] = M1 at *
            generalize fM w z e1 e2 R E t n = M at *
            generalize fK z R E = K at *
            simp -implicitDefEqProofs [-pO, -pP, -fcall_eq, -rcall_eq, zcall_eq, X_spec_l11Canon, hlen, hw1, hw2, hw3, hw4, hw6, i1, i2, i3, i4, i6, hq, he, ke2, hret]
          · rw [if_neg (show ¬ endOk R E t n 1 from hok)] at he
            rw [if_neg hok]
            have hq2 : fM w z e1 e2 R E t n ++ [ownB eU8 [10]] ++ [⟨[], 1, true, true⟩] = fM w z e1 e2 R E t n ++ [ownB eU8 [10], ownB eU8 []] := by rw [List.append_assoc]; rfl
            have hl2 : (fM w z e1 e2 R E t n ++ [ownB eU8 [10]]).length = fK z R E + 1 := by rw [List.length_append, hlen]; rfl
            have hret := rt_any w z e1 e2 h1 h2 R E E rfl t n [ownB eU8 [10], ownB eU8 []] 1 (fK z R E + 1) [] rfl (by omega) [.int .u8 10]
            simp only [List.length_nil] at hret
            refine ⟨.u E, t, n, okE_self E, hE, ?_, rfl⟩
            rw [u_eq w z e1 e2 R E E t n [] (okE_self E) rfl]
            generalize hM3 : fM w z e1 e2 R E t n ++ [ownB eU8 []] = M3 at *
            generalize fM w z e1 e2 R E t n ++ [ownB eU8 [10], ownB eU8 []] = M2 at *
            generalize fM w z e1 e2 R E t n ++ [ownB eU8 [10]] = M1 at *
            generalize fM w z e1 e2 R E t n = M at *
            generalize fK z R E = K at *
            simp -implicitDefEqProofs [-pO, -pP, -fcall_eq, -rcall_eq, zcall_eq, X_spec_l11Canon, hlen, hl2, hw1, hw2, hw3, hw4, hw6, i1, i2, i3, i4, i6, hq, hq2, he, hret]
        · rw [if_neg h10]
          obtain ⟨F, t', n', g1, g2, g3, g4⟩ := take_FdR w z e1 e2 h1 h2 R E t n b h40 hE hl
          refine ⟨F, t', n', g1, g2, ?_, g4⟩
          have hret := rt_form w z e1 e2 h1 h2 R E t' n' (takeS w (lnO R E t n) b).2 F g1 [.int .u8 b]
          generalize F.mem w z e1 e2 R E t' n' [ownB eU8 (takeS w (lnO R E t n) b).2] = M2 at *
          generalize fM w z e1 e2 R E t n = M at *
          generalize fK z R E = K at *
          simp -implicitDefEqProofs [-pO, -pP, -fcall_eq, -rcall_eq, X_spec_l11Canon, hlen, hw1, hw2, hw3, hw4, hw6, i1, i2, i3, i4, i6, h10, g3, hret]
      · rw [if_pos rfl]
        rw [c4] at i4
        have he := e_Ends0 w z e1 e2 h1 h2 R E t n h40 hl
        by_cases hok : endB (lnO R E t n) 0
        · rw [if_pos (show endOk R E t n 0 from hok)] at he
          rw [if_pos hok]
          have hq : enM w z e1 e2 R E t n [] (oE E) ++ [⟨[], 1, true, true⟩] = enM w z e1 e2 R E t n [] (oE E) ++ [ownB eU8 []] := rfl
          have hl2 := enM_len w z e1 e2 R E t n [] (oE E)
          have hl3 : (enM w z e1 e2 R E t n [] (oE E)).length = fK z R E + 2 := hl2
          clear hl2
          have hret := rt_en0 w z e1 e2 h1 h2 R E t n [] (oE E) [.int .u8 b]
          simp only [List.length_nil] at hret
          refine ⟨.n (oR R ++ [oE E]) none, t, n, trivial, trivial, ?_, rfl⟩
          generalize enM w z e1 e2 R E t n [] (oE E) ++ [ownB eU8 []] = M3 at *
          generalize enM w z e1 e2 R E t n [] (oE E) = M2 at *
          generalize (Fm.n (oR R ++ [oE E]) none).mem w z e1 e2 R E t n [ownB eU8 []] = M4 at *
          generalize fM w z e1 e2 R E t n = M at *
          generalize fK z R E = K at *
          simp -implicitDefEqProofs [-pO, -pP, -fcall_eq, -rcall_eq, zcall_eq, X_spec_l11Canon, hlen, hl3, hw1, hw2, hw3, hw4, hw6, i1, i2, i3, i4, i6, hq, he, hret]
        · rw [if_neg (show ¬ endOk R E t n 0 from hok)] at he
          rw [if_neg hok]
          have hq : fM w z e1 e2 R E t n ++ [⟨[], 1, true, true⟩] = fM w z e1 e2 R E t n ++ [ownB eU8 []] := rfl
          have hret := rt_any w z e1 e2 h1 h2 R E E rfl t n [ownB eU8 []] 0 (fK z R E) [] rfl (by omega) [.int .u8 b]
          simp only [List.length_nil] at hret
          refine ⟨.u E, t, n, okE_self E, hE, ?_, rfl⟩
          rw [u_eq w z e1 e2 R E E t n [] (okE_self E) rfl]
          generalize fM w z e1 e2 R E t n ++ [ownB eU8 []] = M1 at *
          generalize fM w z e1 e2 R E t n = M at *
          generalize fK z R E = K at *
          simp -implicitDefEqProofs [-pO, -pP, -fcall_eq, -rcall_eq, zcall_eq, X_spec_l11Canon, hlen, hw1, hw2, hw3, hw4, hw6, i1, i2, i3, i4, i6, hq, he, hret]
    · rw [if_pos rfl]
      rw [c6] at i6
      obtain ⟨E', g1, g2, g3, g4, g5⟩ := x_Gone w z e1 e2 h1 h2 R E t n b hE hb0 hb1
      rw [← u_eq w z e1 e2 R E E' t n _ g1 g3] at g5
      have g6 := rc_form w z e1 e2 h1 h2 R E t n t n _ (.u E') g1 [.int .u8 b] rfl g5
      have hret := rt_form w z e1 e2 h1 h2 R E t n (goneS w (oE E) b).2 (.u E') g1 [.int .u8 b]
      refine ⟨.u E', t, n, g1, g2, ?_, by show (⟨oR R, oE E', t, n⟩ : LnT) = _; rw [g4]⟩
      generalize (Fm.u E').mem w z e1 e2 R E t n [ownB eU8 (goneS w (oE E) b).2] = M2 at *
      generalize fM w z e1 e2 R E t n = M at *
      generalize fK z R E = K at *
      cases d1 : isS w.b b <;> cases d3 : isS w.d b <;> cases d2 : isS w.c b <;> rw [d1] at i1 <;> rw [d2] at i2 <;> rw [d3] at i3 <;> first | (rw [d1, d2, d3] at c1; exact absurd c1 (by decide)) | simp -implicitDefEqProofs [-pO, -pP, -fcall_eq, -rcall_eq, X_spec_l11Canon, hlen, hw1, hw2, hw3, hw4, hw6, i1, i2, i3, i4, i6, g6, hret]
  · rw [if_pos rfl]
    rw [c6] at i6
    have hst : stX (fM w z e1 e2 R E t n) 1 (.pointer (some ⟨1, pO z + 2, none⟩)) (.bool true) = some (fM w z e1 e2 R E true n) := by rcases R with _ | r <;> rcases E with _ | ⟨c, j, m⟩ <;> cases z <;> simp
    have hlen2 := fM_len w z e1 e2 R E true n
    have hq : fM w z e1 e2 R E true n ++ [⟨[], 1, true, true⟩] = fM w z e1 e2 R E true n ++ [ownB eU8 []] := rfl
    have hret := rt_any w z e1 e2 h1 h2 R E E rfl true n [ownB eU8 []] 0 (fK z R E) [] rfl (by omega) [.int .u8 b]
    simp only [List.length_nil] at hret
    refine ⟨.u E, true, n, okE_self E, hE, ?_, rfl⟩
    rw [u_eq w z e1 e2 R E E true n [] (okE_self E) rfl]
    generalize fM w z e1 e2 R E true n ++ [ownB eU8 []] = M1 at *
    generalize fM w z e1 e2 R E true n = M2 at *
    generalize fM w z e1 e2 R E t n = M at *
    generalize fK z R E = K at *
    simp -implicitDefEqProofs [-pO, -pP, -fcall_eq, -rcall_eq, X_spec_l11Canon, hlen, hlen2, hw6, i6, hst, hq, hret]
end Go.Ab
namespace Go.Ab
set_option maxHeartbeats 4000000
def rawS (w : WayT) (l : LnT) (b : Int) : LnT × List Int := if l.rows.length < 40 ∧ l.size < 40 then (⟨l.rows ++ [[b]], l.cur, l.t, l.n⟩, ecS w b) else (l, [])
def coreS (w : WayT) (l : LnT) (b : Int) : LnT × List Int := if hs w 32 && isS w.f b then (⟨l.rows, [], l.t, min 999 (l.n + 1)⟩, ecS w b) else if hs w 1 then canonS w l b else rawS w l b
def feedS (w : WayT) (l : LnT) (b : Int) : LnT × List Int := if l.t then takeS w ⟨l.rows, l.cur, false, l.n⟩ b else coreS w l (if decide (b = 13) && hs w 64 then 10 else b)
theorem raw_FdR (w : WayT) (z : Zt) (e1 e2 : Value) (h1 : inert e1 = true) (h2 : inert e2 = true) (R : Option (List (List Int))) (E : EdT) (t : Bool) (n b : Int) (pv : List Value) (h40 : (oR R).length ≤ 40) (hE : wfE E) (hl : (lnO R E t n).small) : FdR w z e1 e2 R E (bo (fun r => retK (fK z R E) r.2 (ptr0 :: pP z 1 :: pv) r.1) (rcall (zX X_spec_l11Raw) [ptr0, pP z 1, .int .u8 b] (fM w z e1 e2 R E t n))) (rawS w (lnO R E t n) b) := by
  have he := e_Raw w z e1 e2 h1 h2 R E t n b h40 hl
  unfold rawS
  by_cases hok : (oR R).length < 40 ∧ (lnO R E t n).size < 40
  · rw [if_pos hok] at he
    rw [if_pos (show (lnO R E t n).rows.length < 40 ∧ (lnO R E t n).size < 40 from hok)]
    refine ⟨.n (oR R ++ [[b]]) E, t, n, okE_self E, hE, ?_, rfl⟩
    rw [he, bo_some]
    exact rt_formZ w z e1 e2 h1 h2 R E t n (ecS w b) (oR R ++ [[b]]) _ pv
  · rw [if_neg hok] at he
    rw [if_neg (show ¬ ((lnO R E t n).rows.length < 40 ∧ (lnO R E t n).size < 40) from hok)]
    refine ⟨.u E, t, n, okE_self E, hE, ?_, rfl⟩
    rw [he, bo_some, u_eq w z e1 e2 R E E t n [] (okE_self E) rfl]
    exact ret_w0 w z e1 e2 h1 h2 R E t n [] pv
theorem canon_FdR (w : WayT) (z : Zt) (e1 e2 : Value) (h1 : inert e1 = true) (h2 : inert e2 = true) (R : Option (List (List Int))) (E : EdT) (t : Bool) (n b : Int) (pv : List Value) (h40 : (oR R).length ≤ 40) (hE : wfE E) (hl : (lnO R E t n).small) (hb0 : 0 ≤ b) (hb1 : b < 256) : FdR w z e1 e2 R E (bo (fun r => retK (fK z R E) r.2 (ptr0 :: pP z 1 :: pv) r.1) (rcall X_spec_l11Canon [ptr0, pP z 1, .int .u8 b] (fM w z e1 e2 R E t n))) (canonS w (lnO R E t n) b) := by
  obtain ⟨F, t', n', g1, g2, g3, g4⟩ := x_Canon w z e1 e2 h1 h2 R E t n b h40 hE hl hb0 hb1
  refine ⟨F, t', n', g1, g2, ?_, g4⟩
  rw [rc_form w z e1 e2 h1 h2 R E t n t' n' _ F g1 [.int .u8 b] rfl g3, bo_some]
  exact rt_form w z e1 e2 h1 h2 R E t' n' _ F g1 pv
theorem x_Feed (w : WayT) (z : Zt) (e1 e2 : Value) (h1 : inert e1 = true) (h2 : inert e2 = true) (R : Option (List (List Int))) (E : EdT) (t : Bool) (n b : Int) (h40 : (oR R).length ≤ 40) (hE : wfE E) (hl : ∀ t n, (lnO R E t n).small) (hn0 : -1000 ≤ n) (hn1 : n ≤ 1000) (hb0 : 0 ≤ b) (hb1 : b < 256) : FdR w z e1 e2 R E (X_spec_l11Feed [ptr0, pP z 1, .int .u8 b] (fM w z e1 e2 R E t n)) (feedS w (lnO R E t n) b) := by
  have hlen := fM_len w z e1 e2 R E t n
  have hld : ld1 (fM w z e1 e2 R E t n) (.pointer (some ⟨1, pO z + 2, none⟩)) = some (.bool t) := by rcases R with _ | r <;> rcases E with _ | ⟨c, j, m⟩ <;> cases z <;> simp
  have hln : ld1 (fM w z e1 e2 R E t n) (.pointer (some ⟨1, pO z + 3, none⟩)) = some (.int .i64 n) := by rcases R with _ | r <;> rcases E with _ | ⟨c, j, m⟩ <;> cases z <;> simp
  have hw5 : ld1 (fM w z e1 e2 R E t n) (.pointer (some ⟨0, 5, none⟩)) = some (.int .i64 w.f) := by simp
  have m0 : (fM w z e1 e2 R E t n)[0]? = some (wB w) := rfl
  have k64 := f_Has w 64 _ m0
  have k32 := f_Has w 32 _ m0
  have k1 := f_Has w 1 _ m0
  unfold feedS
  cases t
  · simp only [Bool.false_eq_true, if_false]
    have hst : stX (fM w z e1 e2 R E false n) 1 (.pointer (some ⟨1, pO z + 3, none⟩)) (.int .i64 (min 999 (n + 1))) = some (fM w z e1 e2 R E false (min 999 (n + 1))) := by rcases R with _ | r <;> rcases E with _ | ⟨c, j, m⟩ <;> cases z <;> simp
    have hst2 : stX (fM w z e1 e2 R E false (min 999 (n + 1))) 1 (.pointer (some ⟨1, pO z + 1, none⟩)) (.slice none 0 0) = some (wB w :: lBk z e1 e2 (rV (zN z) R) (.slice none 0 0) false (min 999 (n + 1)) :: (hB z ++ (rB R ++ eB' E))) := by rcases R with _ | r <;> rcases E with _ | ⟨c, j, m⟩ <;> cases z <;> simp
    have hmin : ∀ m, fcall X_spec_l1Min [.int .i64 999, .int .i64 (n + 1)] m = some (.int .i64 (min 999 (n + 1)), m) := fun m => by
      have := s_spec_l1Min 999 (n + 1)
      simp [this]
    have hwr : IntKind.i64.wrap (n + 1) = n + 1 := wrap_i64 (by omega) (by omega)
    by_cases h13 : b = 13
    · subst h13
      cases c64 : hs w 64
      · rw [c64] at k64
        rw [if_neg (by simp)]
        have j5 := f_Is w.f 13 (by omega) (by omega)
        unfold coreS
        cases c32 : hs w 32
        · rw [c32] at k32
          rw [if_neg (by simp)]
          cases c1 : hs w 1
          · rw [c1] at k1
            rw [if_neg (by simp)]
            obtain ⟨F, t', n', g1, g2, g3, g4⟩ := raw_FdR w z e1 e2 h1 h2 R E false n 13 [.int .u8 13] h40 hE (hl _ _)
            refine ⟨F, t', n', g1, g2, Eq.trans ?_ g3, g4⟩
            generalize fM w z e1 e2 R E false n = M at *
            generalize fK z R E = K at *
            simp -implicitDefEqProofs [-pO, -pP, -fcall_eq, -rcall_eq, zcall_eq, X_spec_l11Feed, hlen, hld, k64, k32, k1]
          · rw [c1] at k1
            rw [if_pos rfl]
            obtain ⟨F, t', n', g1, g2, g3, g4⟩ := canon_FdR w z e1 e2 h1 h2 R E false n 13 [.int .u8 13] h40 hE (hl _ _) (by omega) (by omega)
            refine ⟨F, t', n', g1, g2, Eq.trans ?_ g3, g4⟩
            generalize fM w z e1 e2 R E false n = M at *
            generalize fK z R E = K at *
            simp -implicitDefEqProofs [-pO, -pP, -fcall_eq, -rcall_eq, X_spec_l11Feed, hlen, hld, k64, k32, k1]
        · rw [c32] at k32
          cases c5 : isS w.f 13
          · rw [c5] at j5
            rw [if_neg (by simp)]
            cases c1 : hs w 1
            · rw [c1] at k1
              rw [if_neg (by simp)]
              obtain ⟨F, t', n', g1, g2, g3, g4⟩ := raw_FdR w z e1 e2 h1 h2 R E false n 13 [.int .u8 13] h40 hE (hl _ _)
              refine ⟨F, t', n', g1, g2, Eq.trans ?_ g3, g4⟩
              generalize fM w z e1 e2 R E false n = M at *
              generalize fK z R E = K at *
              simp -implicitDefEqProofs [-pO, -pP, -fcall_eq, -rcall_eq, zcall_eq, X_spec_l11Feed, hlen, hld, k64, k32, k1, hw5, j5]
            · rw [c1] at k1
              rw [if_pos rfl]
              obtain ⟨F, t', n', g1, g2, g3, g4⟩ := canon_FdR w z e1 e2 h1 h2 R E false n 13 [.int .u8 13] h40 hE (hl _ _) (by omega) (by omega)
              refine ⟨F, t', n', g1, g2, Eq.trans ?_ g3, g4⟩
              generalize fM w z e1 e2 R E false n = M at *
              generalize fK z R E = K at *
              simp -implicitDefEqProofs [-pO, -pP, -fcall_eq, -rcall_eq, X_spec_l11Feed, hlen, hld, k64, k32, k1, hw5, j5]
          · rw [c5] at j5
            rw [if_pos (by simp)]
            have m1 : (wB w :: lBk z e1 e2 (rV (zN z) R) (.slice none 0 0) false (min 999 (n + 1)) :: (hB z ++ (rB R ++ eB' E)))[0]? = some (wB w) := rfl
            have ke := f_Echo w 13 _ m1
            have hlk : (wB w :: lBk z e1 e2 (rV (zN z) R) (.slice none 0 0) false (min 999 (n + 1)) :: (hB z ++ (rB R ++ eB' E))).length = fK z R E := by
              simp only [List.length_cons, List.length_append, fK, zN]
              omega
            rw [hlk] at ke
            have hm : (Fm.u none).mem w z e1 e2 R E false (min 999 (n + 1)) [ownB eU8 (ecS w 13)] = (wB w :: lBk z e1 e2 (rV (zN z) R) (.slice none 0 0) false (min 999 (n + 1)) :: (hB z ++ (rB R ++ eB' E))) ++ [ownB eU8 (ecS w 13)] := rfl
            rw [← hm] at ke
            have hret := rt_form w z e1 e2 h1 h2 R E false (min 999 (n + 1)) (ecS w 13) (.u none) trivial [.int .u8 13]
            refine ⟨.u none, false, min 999 (n + 1), trivial, trivial, ?_, rfl⟩
            generalize (Fm.u none).mem w z e1 e2 R E false (min 999 (n + 1)) [ownB eU8 (ecS w 13)] = M3 at *
            generalize (wB w :: lBk z e1 e2 (rV (zN z) R) (.slice none 0 0) false (min 999 (n + 1)) :: (hB z ++ (rB R ++ eB' E))) = M2 at *
            generalize fM w z e1 e2 R E false (min 999 (n + 1)) = M1 at *
            generalize fM w z e1 e2 R E false n = M at *
            generalize fK z R E = K at *
            simp -implicitDefEqProofs [-pO, -pP, -fcall_eq, -rcall_eq, X_spec_l11Feed, hlen, hld, k64, k32, k1, hw5, j5, hln, hwr, hmin, hst, hst2, ke, hret]
      · rw [c64] at k64
        rw [if_pos (by simp)]
        have j5 := f_Is w.f 10 (by omega) (by omega)
        unfold coreS
        cases c32 : hs w 32
        · rw [c32] at k32
          rw [if_neg (by simp)]
          cases c1 : hs w 1
          · rw [c1] at k1
            rw [if_neg (by simp)]
            obtain ⟨F, t', n', g1, g2, g3, g4⟩ := raw_FdR w z e1 e2 h1 h2 R E false n 10 [.int .u8 10] h40 hE (hl _ _)
            refine ⟨F, t', n', g1, g2, Eq.trans ?_ g3, g4⟩
            generalize fM w z e1 e2 R E false n = M at *
            generalize fK z R E = K at *
            simp -implicitDefEqProofs [-pO, -pP, -fcall_eq, -rcall_eq, zcall_eq, X_spec_l11Feed, hlen, hld, k64, k32, k1]
          · rw [c1] at k1
            rw [if_pos rfl]
            obtain ⟨F, t', n', g1, g2, g3, g4⟩ := canon_FdR w z e1 e2 h1 h2 R E false n 10 [.int .u8 10] h40 hE (hl _ _) (by omega) (by omega)
            refine ⟨F, t', n', g1, g2, Eq.trans ?_ g3, g4⟩
            generalize fM w z e1 e2 R E false n = M at *
            generalize fK z R E = K at *
            simp -implicitDefEqProofs [-pO, -pP, -fcall_eq, -rcall_eq, X_spec_l11Feed, hlen, hld, k64, k32, k1]
        · rw [c32] at k32
          cases c5 : isS w.f 10
          · rw [c5] at j5
            rw [if_neg (by simp)]
            cases c1 : hs w 1
            · rw [c1] at k1
              rw [if_neg (by simp)]
              obtain ⟨F, t', n', g1, g2, g3, g4⟩ := raw_FdR w z e1 e2 h1 h2 R E false n 10 [.int .u8 10] h40 hE (hl _ _)
              refine ⟨F, t', n', g1, g2, Eq.trans ?_ g3, g4⟩
              generalize fM w z e1 e2 R E false n = M at *
              generalize fK z R E = K at *
              simp -implicitDefEqProofs [-pO, -pP, -fcall_eq, -rcall_eq, zcall_eq, X_spec_l11Feed, hlen, hld, k64, k32, k1, hw5, j5]
            · rw [c1] at k1
              rw [if_pos rfl]
              obtain ⟨F, t', n', g1, g2, g3, g4⟩ := canon_FdR w z e1 e2 h1 h2 R E false n 10 [.int .u8 10] h40 hE (hl _ _) (by omega) (by omega)
              refine ⟨F, t', n', g1, g2, Eq.trans ?_ g3, g4⟩
              generalize fM w z e1 e2 R E false n = M at *
              generalize fK z R E = K at *
              simp -implicitDefEqProofs [-pO, -pP, -fcall_eq, -rcall_eq, X_spec_l11Feed, hlen, hld, k64, k32, k1, hw5, j5]
          · rw [c5] at j5
            rw [if_pos (by simp)]
            have m1 : (wB w :: lBk z e1 e2 (rV (zN z) R) (.slice none 0 0) false (min 999 (n + 1)) :: (hB z ++ (rB R ++ eB' E)))[0]? = some (wB w) := rfl
            have ke := f_Echo w 10 _ m1
            have hlk : (wB w :: lBk z e1 e2 (rV (zN z) R) (.slice none 0 0) false (min 999 (n + 1)) :: (hB z ++ (rB R ++ eB' E))).length = fK z R E := by
              simp only [List.length_cons, List.length_append, fK, zN]
              omega
            rw [hlk] at ke
            have hm : (Fm.u none).mem w z e1 e2 R E false (min 999 (n + 1)) [ownB eU8 (ecS w 10)] = (wB w :: lBk z e1 e2 (rV (zN z) R) (.slice none 0 0) false (min 999 (n + 1)) :: (hB z ++ (rB R ++ eB' E))) ++ [ownB eU8 (ecS w 10)] := rfl
            rw [← hm] at ke
            have hret := rt_form w z e1 e2 h1 h2 R E false (min 999 (n + 1)) (ecS w 10) (.u none) trivial [.int .u8 10]
            refine ⟨.u none, false, min 999 (n + 1), trivial, trivial, ?_, rfl⟩
            generalize (Fm.u none).mem w z e1 e2 R E false (min 999 (n + 1)) [ownB eU8 (ecS w 10)] = M3 at *
            generalize (wB w :: lBk z e1 e2 (rV (zN z) R) (.slice none 0 0) false (min 999 (n + 1)) :: (hB z ++ (rB R ++ eB' E))) = M2 at *
            generalize fM w z e1 e2 R E false (min 999 (n + 1)) = M1 at *
            generalize fM w z e1 e2 R E false n = M at *
            generalize fK z R E = K at *
            simp -implicitDefEqProofs [-pO, -pP, -fcall_eq, -rcall_eq, X_spec_l11Feed, hlen, hld, k64, k32, k1, hw5, j5, hln, hwr, hmin, hst, hst2, ke, hret]
    · rw [if_neg (by simp [h13])]
      have j5 := f_Is w.f b (by omega) (by omega)
      unfold coreS
      cases c32 : hs w 32
      · rw [c32] at k32
        rw [if_neg (by simp)]
        cases c1 : hs w 1
        · rw [c1] at k1
          rw [if_neg (by simp)]
          obtain ⟨F, t', n', g1, g2, g3, g4⟩ := raw_FdR w z e1 e2 h1 h2 R E false n b [.int .u8 b] h40 hE (hl _ _)
          refine ⟨F, t', n', g1, g2, Eq.trans ?_ g3, g4⟩
          generalize fM w z e1 e2 R E false n = M at *
          generalize fK z R E = K at *
          simp -implicitDefEqProofs [-pO, -pP, -fcall_eq, -rcall_eq, zcall_eq, X_spec_l11Feed, hlen, hld, h13, k32, k1]
        · rw [c1] at k1
          rw [if_pos rfl]
          obtain ⟨F, t', n', g1, g2, g3, g4⟩ := canon_FdR w z e1 e2 h1 h2 R E false n b [.int .u8 b] h40 hE (hl _ _) (by omega) (by omega)
          refine ⟨F, t', n', g1, g2, Eq.trans ?_ g3, g4⟩
          generalize fM w z e1 e2 R E false n = M at *
          generalize fK z R E = K at *
          simp -implicitDefEqProofs [-pO, -pP, -fcall_eq, -rcall_eq, X_spec_l11Feed, hlen, hld, h13, k32, k1]
      · rw [c32] at k32
        cases c5 : isS w.f b
        · rw [c5] at j5
          rw [if_neg (by simp)]
          cases c1 : hs w 1
          · rw [c1] at k1
            rw [if_neg (by simp)]
            obtain ⟨F, t', n', g1, g2, g3, g4⟩ := raw_FdR w z e1 e2 h1 h2 R E false n b [.int .u8 b] h40 hE (hl _ _)
            refine ⟨F, t', n', g1, g2, Eq.trans ?_ g3, g4⟩
            generalize fM w z e1 e2 R E false n = M at *
            generalize fK z R E = K at *
            simp -implicitDefEqProofs [-pO, -pP, -fcall_eq, -rcall_eq, zcall_eq, X_spec_l11Feed, hlen, hld, h13, k32, k1, hw5, j5]
          · rw [c1] at k1
            rw [if_pos rfl]
            obtain ⟨F, t', n', g1, g2, g3, g4⟩ := canon_FdR w z e1 e2 h1 h2 R E false n b [.int .u8 b] h40 hE (hl _ _) (by omega) (by omega)
            refine ⟨F, t', n', g1, g2, Eq.trans ?_ g3, g4⟩
            generalize fM w z e1 e2 R E false n = M at *
            generalize fK z R E = K at *
            simp -implicitDefEqProofs [-pO, -pP, -fcall_eq, -rcall_eq, X_spec_l11Feed, hlen, hld, h13, k32, k1, hw5, j5]
        · rw [c5] at j5
          rw [if_pos (by simp)]
          have m1 : (wB w :: lBk z e1 e2 (rV (zN z) R) (.slice none 0 0) false (min 999 (n + 1)) :: (hB z ++ (rB R ++ eB' E)))[0]? = some (wB w) := rfl
          have ke := f_Echo w b _ m1
          have hlk : (wB w :: lBk z e1 e2 (rV (zN z) R) (.slice none 0 0) false (min 999 (n + 1)) :: (hB z ++ (rB R ++ eB' E))).length = fK z R E := by
            simp only [List.length_cons, List.length_append, fK, zN]
            omega
          rw [hlk] at ke
          have hm : (Fm.u none).mem w z e1 e2 R E false (min 999 (n + 1)) [ownB eU8 (ecS w b)] = (wB w :: lBk z e1 e2 (rV (zN z) R) (.slice none 0 0) false (min 999 (n + 1)) :: (hB z ++ (rB R ++ eB' E))) ++ [ownB eU8 (ecS w b)] := rfl
          rw [← hm] at ke
          have hret := rt_form w z e1 e2 h1 h2 R E false (min 999 (n + 1)) (ecS w b) (.u none) trivial [.int .u8 b]
          refine ⟨.u none, false, min 999 (n + 1), trivial, trivial, ?_, rfl⟩
          generalize (Fm.u none).mem w z e1 e2 R E false (min 999 (n + 1)) [ownB eU8 (ecS w b)] = M3 at *
          generalize (wB w :: lBk z e1 e2 (rV (zN z) R) (.slice none 0 0) false (min 999 (n + 1)) :: (hB z ++ (rB R ++ eB' E))) = M2 at *
          generalize fM w z e1 e2 R E false (min 999 (n + 1)) = M1 at *
          generalize fM w z e1 e2 R E false n = M at *
          generalize fK z R E = K at *
          simp -implicitDefEqProofs [-pO, -pP, -fcall_eq, -rcall_eq, X_spec_l11Feed, hlen, hld, h13, k32, k1, hw5, j5, hln, hwr, hmin, hst, hst2, ke, hret]
  · simp only [if_true]
    have hst : stX (fM w z e1 e2 R E true n) 1 (.pointer (some ⟨1, pO z + 2, none⟩)) (.bool false) = some (fM w z e1 e2 R E false n) := by rcases R with _ | r <;> rcases E with _ | ⟨c, j, m⟩ <;> cases z <;> simp
    obtain ⟨F, t', n', g1, g2, g3, g4⟩ := take_FdR w z e1 e2 h1 h2 R E false n b h40 hE (hl _ _)
    refine ⟨F, t', n', g1, g2, ?_, g4⟩
    have hret := rt_form w z e1 e2 h1 h2 R E t' n' (takeS w (lnO R E false n) b).2 F g1 [.int .u8 b]
    have g3 : rcall X_spec_l11Take [ptr0, pP z 1, .int .u8 b] (fM w z e1 e2 R E false n) = some (slO (fK z R E) (takeS w ⟨oR R, oE E, false, n⟩ b).2.length, F.mem w z e1 e2 R E t' n' [ownB eU8 (takeS w ⟨oR R, oE E, false, n⟩ b).2]) := g3
    generalize takeS w ⟨oR R, oE E, false, n⟩ b = tk at *
    generalize F.mem w z e1 e2 R E t' n' [ownB eU8 tk.2] = M2 at *
    generalize fM w z e1 e2 R E false n = M1 at *
    generalize fM w z e1 e2 R E true n = M at *
    generalize fK z R E = K at *
    simp -implicitDefEqProofs [-pO, -pP, -fcall_eq, -rcall_eq, X_spec_l11Feed, hlen, hld, hst, g3, hret]
end Go.Ab
namespace Go.Ab
set_option maxHeartbeats 4000000
def lnOk (l : LnT) : Prop := l.rows.length ≤ 40 ∧ l.size ≤ 40 ∧ 0 ≤ l.n ∧ l.n ≤ 999 ∧ (∀ x ∈ l.rows, bOk x) ∧ bOk l.cur
theorem sumL_app (a b : List (List Int)) : sumL (a ++ b) = sumL a + sumL b := by
  induction a with
  | nil => simp [sumL]
  | cons x r ih => rw [List.cons_append, sumL, sumL, ih]; omega
theorem sumL_one (x : List Int) : sumL [x] = x.length := by simp [sumL]
theorem dwS_pre (w : WayT) (p : Int → Bool) : ∀ (n : Nat) (c : List Int), ∃ k, (dwS w p n c).1 = c.take k
  | 0, c => ⟨c.length, by simp [dwS]⟩
  | n + 1, c => by
    rw [dwS]
    split
    · obtain ⟨k, hk⟩ := dwS_pre w p n (c.take (laE c))
      exact ⟨min k (laE c), by rw [hk, List.take_take]⟩
    · exact ⟨c.length, by simp⟩
theorem gone_pre (w : WayT) (c : List Int) (b : Int) : ∃ k, (goneS w c b).1 = c.take k := by
  unfold goneS
  split
  · split
    · exact ⟨0, rfl⟩
    · exact ⟨_, rfl⟩
  · split
    · obtain ⟨k1, h1⟩ := dwS_pre w (fun b => decide (b = 32)) c.length c
      obtain ⟨k2, h2⟩ := dwS_pre w (fun b => decide (¬ b = 32)) c.length (dwS w (fun b => decide (b = 32)) c.length c).1
      refine ⟨min k2 k1, ?_⟩
      show (wordS w c).1 = _
      unfold wordS
      rw [h2, h1, List.take_take]
    · exact dwS_pre w _ _ _
theorem bOk_take {c : List Int} (h : bOk c) (k : Nat) : bOk (c.take k) := fun x hx => h x (List.mem_of_mem_take hx)
theorem bOk_app {a b : List Int} (h1 : bOk a) (h2 : bOk b) : bOk (a ++ b) := fun x hx => by
  rcases List.mem_append.1 hx with h | h
  · exact h1 x h
  · exact h2 x h
theorem bOk_one {b : Int} (h0 : 0 ≤ b) (h1 : b < 256) : bOk [b] := fun x hx => by
  simp at hx
  omega
theorem mem_snoc {α : Type} {P : α → Prop} {l : List α} {x : α} (h1 : ∀ y ∈ l, P y) (h2 : P x) : ∀ y ∈ l ++ [x], P y := fun y hy => by
  rcases List.mem_append.1 hy with h | h
  · exact h1 y h
  · simp at h
    rw [h]
    exact h2
theorem takeS_ok (w : WayT) {l : LnT} {b : Int} (h : lnOk l) (h0 : 0 ≤ b) (h1 : b < 256) : lnOk (takeS w l b).1 := by
  unfold takeS
  split
  · exact h
  · obtain ⟨g1, g2, g3, g4, g5, g6⟩ := h
    refine ⟨g1, ?_, g3, g4, g5, bOk_app g6 (bOk_one h0 h1)⟩
    rename_i hs
    unfold LnT.size at hs ⊢
    simp only [List.length_append, List.length_singleton]
    omega
theorem rawS_ok (w : WayT) {l : LnT} {b : Int} (h : lnOk l) (h0 : 0 ≤ b) (h1 : b < 256) : lnOk (rawS w l b).1 := by
  unfold rawS
  obtain ⟨g1, g2, g3, g4, g5, g6⟩ := h
  split
  · rename_i hs
    refine ⟨by simp; omega, ?_, g3, g4, mem_snoc g5 (bOk_one h0 h1), g6⟩
    unfold LnT.size at hs ⊢
    simp only [sumL_app, sumL_one, List.length_singleton]
    omega
  · exact ⟨g1, g2, g3, g4, g5, g6⟩
theorem canonS_ok (w : WayT) {l : LnT} {b : Int} (h : lnOk l) (h0 : 0 ≤ b) (h1 : b < 256) : lnOk (canonS w l b).1 := by
  have hh := h
  obtain ⟨g1, g2, g3, g4, g5, g6⟩ := h
  unfold canonS
  split
  · exact ⟨g1, g2, g3, g4, g5, g6⟩
  split
  · obtain ⟨k, hk⟩ := gone_pre w l.cur b
    refine ⟨g1, ?_, g3, g4, g5, by show bOk (goneS w l.cur b).1; rw [hk]; exact bOk_take g6 k⟩
    unfold LnT.size at g2 ⊢
    simp only [hk, List.length_take]
    omega
  split
  · split
    · rename_i he
      refine ⟨by have := he.1; simp; omega, ?_, g3, g4, mem_snoc g5 g6, fun x hx => by cases hx⟩
      have := he.2
      unfold LnT.size at this ⊢
      simp only [sumL_app, sumL_one, List.length_nil]
      omega
    · exact hh
  split
  · split
    · rename_i he
      refine ⟨by have := he.1; simp; omega, ?_, g3, g4, mem_snoc g5 (bOk_app g6 (bOk_one (by omega) (by omega))), fun x hx => by cases hx⟩
      have := he.2
      unfold LnT.size at this ⊢
      simp only [sumL_app, sumL_one, List.length_nil, List.length_append, List.length_singleton]
      omega
    · exact hh
  · exact takeS_ok w hh h0 h1
theorem feedS_ok (w : WayT) {l : LnT} {b : Int} (h : lnOk l) (h0 : 0 ≤ b) (h1 : b < 256) : lnOk (feedS w l b).1 := by
  unfold feedS
  split
  · exact takeS_ok w (l := ⟨l.rows, l.cur, false, l.n⟩) h h0 h1
  · generalize hb : (if (decide (b = 13) && hs w 64) = true then (10 : Int) else b) = b'
    have hb0 : 0 ≤ b' ∧ b' < 256 := by
      rw [← hb]
      split <;> omega
    have hh := h
    obtain ⟨g1, g2, g3, g4, g5, g6⟩ := h
    unfold coreS
    split
    · refine ⟨g1, ?_, ?_, ?_, g5, fun x hx => by cases hx⟩
      · unfold LnT.size at g2 ⊢
        simp only [List.length_nil]
        omega
      · show 0 ≤ min 999 (l.n + 1)
        omega
      · show min 999 (l.n + 1) ≤ 999
        omega
    split
    · exact canonS_ok w hh hb0.1 hb0.2
    · exact rawS_ok w hh hb0.1 hb0.2
theorem lnOk_small {l : LnT} (h : lnOk l) : l.small := by
  obtain ⟨g1, g2, g3, g4, g5, g6⟩ := h
  have hs : ∀ (r : List (List Int)) x, x ∈ r → x.length ≤ sumL r := by
    intro r
    induction r with
    | nil => intro x hx; cases hx
    | cons y r ih =>
      intro x hx
      rw [sumL]
      rcases List.mem_cons.1 hx with rfl | hx
      · omega
      · have := ih x hx
        omega
  unfold LnT.size at g2
  exact ⟨by omega, fun x hx => by have := hs _ x hx; omega, by omega⟩
end Go.Ab
namespace Go.Ab
set_option maxHeartbeats 4000000
@[simp] theorem fz_tuple (k : Nat) (m : Mem) (cs : Array Value) : fz (k + 1) m (.tuple cs) = bo (fun xs => some (.tuple xs.toArray)) (mapO (fz k m) cs.toList) := (rfl)
abbrev srcM (l : List Int) (a : Int) : Blk := ⟨[frS eU8 l, .int .i64 a], 0, true, true⟩
abbrev pt (n : Nat) : Value := .pointer (some ⟨n, 0, none⟩)
def bytesOk (l : List Int) : Prop := l.length < 2000000 ∧ ∀ x ∈ l, 0 ≤ x ∧ x < 256
def atOk (a : Int) : Prop := 0 ≤ a ∧ a < 1000000000
def nx (l : List Int) (a n : Int) : Int :=
  if n < 1 then 0 else if l.length = 0 then (a * 7).tmod n else
    if 200 < n then ((gt l (a.tmod l.length).toNat + a.tdiv l.length * 37) * 251 + gt l ((a + 1).tmod l.length).toNat * 13 + a).tmod n
    else (gt l (a.tmod l.length).toNat + a.tdiv l.length * 37).tmod n
theorem gt_byte {l : List Int} (h : bytesOk l) (j : Nat) : 0 ≤ gt l j ∧ gt l j < 256 := by
  rcases Nat.lt_or_ge j l.length with hj | hj
  · rw [gt_lt hj]
    exact h.2 _ (List.getElem_mem hj)
  · have : gt l j = 0 := by simp [gt, List.getElem?_eq_none hj]
    rw [this]
    omega
theorem src_facts {l : List Int} (hl : bytesOk l) {a : Int} (ha : 0 ≤ a) (hk : l.length ≠ 0) : 0 ≤ a.tmod l.length ∧ a.tmod l.length < l.length ∧ 0 ≤ a.tdiv l.length ∧ a.tdiv l.length ≤ a := by
  have h1 := Int.tmod_nonneg (l.length : Int) ha
  have h2 := Int.tmod_lt_of_pos a (show (0 : Int) < l.length by omega)
  have h3 := Int.tdiv_nonneg ha (show (0 : Int) ≤ l.length by omega)
  have h4 := Int.tdiv_le_self (a := a) l.length ha
  exact ⟨h1, h2, h3, h4⟩
theorem nx_bd {l : List Int} (hl : bytesOk l) {a n : Int} (ha : atOk a) (hn : 1 ≤ n) : 0 ≤ nx l a n ∧ nx l a n < n := by
  unfold nx
  rw [if_neg (by omega)]
  have ha' := ha
  obtain ⟨a0, a1⟩ := ha
  split
  · exact ⟨Int.tmod_nonneg _ (by omega), Int.tmod_lt_of_pos _ (by omega)⟩
  · rename_i hk
    obtain ⟨f1, f2, f3, f4⟩ := src_facts hl ha'.1 hk
    have g1 := gt_byte hl (a.tmod l.length).toNat
    have g2 := gt_byte hl ((a + 1).tmod l.length).toNat
    split
    · exact ⟨Int.tmod_nonneg _ (by omega), Int.tmod_lt_of_pos _ (by omega)⟩
    · exact ⟨Int.tmod_nonneg _ (by omega), Int.tmod_lt_of_pos _ (by omega)⟩
theorem s_l1Next (l : List Int) (a n : Int) (hl : bytesOk l) (ha : atOk a) : X_spec_l1Next [pt 0, .int .i64 n] [srcM l a] = some (.int .i64 (nx l a n), [srcM l (a + 1)]) := by
  have ha' := ha
  obtain ⟨a0, a1⟩ := ha
  have w1 : IntKind.i64.wrap (a + 1) = a + 1 := wrap_i64 (by omega) (by omega)
  have w2 : IntKind.i64.wrap a = a := wrap_i64 (by omega) (by omega)
  have w3 : IntKind.i64.wrap (a * 7) = a * 7 := wrap_i64 (by omega) (by omega)
  by_cases hn : n < 1
  · simp -implicitDefEqProofs [X_spec_l1Next, retK_eq, w1, hn, nx]
  · have hn0 : ¬ n = 0 := by omega
    by_cases hk : l.length = 0
    · obtain rfl : l = [] := List.eq_nil_of_length_eq_zero hk
      simp -implicitDefEqProofs [X_spec_l1Next, retK_eq, w1, w2, w3, hn, hn0, nx]
    · obtain ⟨f1, f2, f3, f4⟩ := src_facts hl ha'.1 hk
      obtain ⟨e1, e2, _, _⟩ := src_facts hl (a := a + 1) (by omega) hk
      have g1 := gt_byte hl (a.tmod l.length).toNat
      have g2 := gt_byte hl ((a + 1).tmod l.length).toNat
      have hk1 : ¬ (l.length : Int) = 0 := by omega
      have hl0 : ¬ l = [] := fun e => hk (by rw [e]; rfl)
      have hx1 := ixa_frS eU8 (sz := 1) rfl .i64 f1 f2
      have hx2 := ixa_frS eU8 (sz := 1) rfl .i64 e1 e2
      have v1 : IntKind.i64.wrap (gt l (a.tmod l.length).toNat) = gt l (a.tmod l.length).toNat := wrap_i64 (by omega) (by omega)
      have v2 : IntKind.i64.wrap (gt l ((a + 1).tmod l.length).toNat) = gt l ((a + 1).tmod l.length).toNat := wrap_i64 (by omega) (by omega)
      have v3 : IntKind.i64.wrap (a.tdiv l.length) = a.tdiv l.length := wrap_i64 (by omega) (by omega)
      have v4 : IntKind.i64.wrap (a.tdiv l.length * 37) = a.tdiv l.length * 37 := wrap_i64 (by omega) (by omega)
      have v5 : IntKind.i64.wrap (gt l (a.tmod l.length).toNat + a.tdiv l.length * 37) = gt l (a.tmod l.length).toNat + a.tdiv l.length * 37 := wrap_i64 (by omega) (by omega)
      have v6 : IntKind.i64.wrap ((gt l (a.tmod l.length).toNat + a.tdiv l.length * 37) * 251) = (gt l (a.tmod l.length).toNat + a.tdiv l.length * 37) * 251 := wrap_i64 (by omega) (by omega)
      have v7 : IntKind.i64.wrap (gt l ((a + 1).tmod l.length).toNat * 13) = gt l ((a + 1).tmod l.length).toNat * 13 := wrap_i64 (by omega) (by omega)
      have v8 : IntKind.i64.wrap ((gt l (a.tmod l.length).toNat + a.tdiv l.length * 37) * 251 + gt l ((a + 1).tmod l.length).toNat * 13) = (gt l (a.tmod l.length).toNat + a.tdiv l.length * 37) * 251 + gt l ((a + 1).tmod l.length).toNat * 13 := wrap_i64 (by omega) (by omega)
      have v9 : IntKind.i64.wrap ((gt l (a.tmod l.length).toNat + a.tdiv l.length * 37) * 251 + gt l ((a + 1).tmod l.length).toNat * 13 + a) = (gt l (a.tmod l.length).toNat + a.tdiv l.length * 37) * 251 + gt l ((a + 1).tmod l.length).toNat * 13 + a := wrap_i64 (by omega) (by omega)
      by_cases h2 : 200 < n
      · simp (maxSteps := 400000) -implicitDefEqProofs [X_spec_l1Next, retK_eq, w1, w2, hn, hn0, nx, hk, hk1, hl0, hx1, hx2, v1, v2, v3, v4, v5, v6, v7, v8, v9, h2]
      · simp (maxSteps := 400000) -implicitDefEqProofs [X_spec_l1Next, retK_eq, w1, w2, hn, hn0, nx, hk, hk1, hl0, hx1, v1, v3, v4, v5, h2]
def pk (l : List Int) (a : Int) (xs : List Int) : Int := gt xs (nx l a xs.length).toNat
theorem pk_mem {l : List Int} (hl : bytesOk l) {a : Int} (ha : atOk a) {xs : List Int} (h : xs ≠ []) : pk l a xs ∈ xs := by
  have hp : 0 < xs.length := List.length_pos_iff.mpr h
  have hb := nx_bd hl ha (show (1 : Int) ≤ xs.length by omega)
  unfold pk
  rw [gt_lt (by omega)]
  exact List.getElem_mem _
theorem s_pickG (l : List Int) (a : Int) (xs : List Int) (hl : bytesOk l) (ha : atOk a) (h : xs ≠ []) : X_spec_l1Pick [pt 0, .slice (some ⟨1, 0, none⟩) xs.length xs.length] [srcM l a, ownB (eI .i64) xs] = some (.int .i64 (pk l a xs), [srcM l (a + 1), ownB (eI .i64) xs]) := by
  have hp : 0 < xs.length := List.length_pos_iff.mpr h
  have hb := nx_bd hl ha (show (1 : Int) ≤ xs.length by omega)
  have hn := s_l1Next l a xs.length hl ha
  have hx := fun o c => ixa_sl (sz := 1) .i64 (n := 1) (o := o) (len := xs.length) (c := c) hb.1 hb.2
  obtain ⟨j, hj⟩ := Int.eq_ofNat_of_zero_le hb.1
  have hc : (cellsE (eI .i64) xs)[j]? = some (.int .i64 (gt xs j)) := by
    have := cell_at (eI .i64) (l := xs) (i := j) (o := 0) (by omega) (by decide)
    simpa using this
  have e : pk l a xs = gt xs j := by unfold pk; rw [hj]; rfl
  rw [hj] at hn hx
  rw [e]
  simp (maxSteps := 400000) -implicitDefEqProofs [X_spec_l1Pick, retK_eq, hn, hx, hc]
theorem s_pick2 (l : List Int) (a x y : Int) (hl : bytesOk l) (ha : atOk a) : X_spec_l1Pick [pt 0, .slice (some ⟨1, 0, none⟩) 2 2] [srcM l a, ⟨[.int .i64 x, .int .i64 y], 1, true, true⟩] = some (.int .i64 (pk l a [x, y]), [srcM l (a + 1), ⟨[.int .i64 x, .int .i64 y], 1, true, true⟩]) := s_pickG l a [x, y] hl ha (by simp)
theorem s_pick3 (l : List Int) (a x y z : Int) (hl : bytesOk l) (ha : atOk a) : X_spec_l1Pick [pt 0, .slice (some ⟨1, 0, none⟩) 3 3] [srcM l a, ⟨[.int .i64 x, .int .i64 y, .int .i64 z], 1, true, true⟩] = some (.int .i64 (pk l a [x, y, z]), [srcM l (a + 1), ⟨[.int .i64 x, .int .i64 y, .int .i64 z], 1, true, true⟩]) := s_pickG l a [x, y, z] hl ha (by simp)
theorem s_pick4 (l : List Int) (a x y z u : Int) (hl : bytesOk l) (ha : atOk a) : X_spec_l1Pick [pt 0, .slice (some ⟨1, 0, none⟩) 4 4] [srcM l a, ⟨[.int .i64 x, .int .i64 y, .int .i64 z, .int .i64 u], 1, true, true⟩] = some (.int .i64 (pk l a [x, y, z, u]), [srcM l (a + 1), ⟨[.int .i64 x, .int .i64 y, .int .i64 z, .int .i64 u], 1, true, true⟩]) := s_pickG l a [x, y, z, u] hl ha (by simp)
theorem s_l1Source (l : List Int) : X_spec_l1Source [frS eU8 l] [] = some (pt 0, [srcM l 0]) := by
  simp -implicitDefEqProofs [X_spec_l1Source, retK_eq]
theorem s_lwBig (l : List Int) : X_laws_lwBig [frS eU8 l] [] = some (.bool (decide (1048576 < l.length)), []) := by
  simp -implicitDefEqProofs [X_laws_lwBig, retK_eq]
  omega
theorem bytes_small {l : List Int} (h : ¬ 1048576 < l.length) (hb : ∀ x ∈ l, 0 ≤ x ∧ x < 256) : bytesOk l := ⟨by omega, hb⟩
theorem icall_all {X : List Value → Mem → Option VM} {args : List Value} {v : Value} (h : icall X args [] = some (v, [])) (m : Mem) : icall X args m = some (v, m) := by
  unfold icall at h ⊢
  split at h
  · rename_i ha
    rw [if_pos ha]
    obtain ⟨r, h1, h2⟩ := ob_eq h
    obtain ⟨w, h3, h4⟩ := ob_eq h2
    cases h4
    rw [h1, ob_some, h3, ob_some]
  · cases h
end Go.Ab
