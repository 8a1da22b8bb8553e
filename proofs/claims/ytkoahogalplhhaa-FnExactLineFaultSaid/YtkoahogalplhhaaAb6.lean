/- Part of an own evaluator of Go code on numbered blocks, and of the proof that the machine does what it says; each theorem carries its own conditions. -/
import Derived.Test.YtkoahogalplhhaaAb5
set_option linter.unusedVariables false
set_option linter.unusedSimpArgs false
namespace Go.Ab

section
variable {C : Cfg} {B : Nat} {ι : Emb} {T : Tm} {a : Act} {m : Mem} {w : World}
variable (hC : CfgOK C)
include hC

/-- Nothing appended to nil. -/
theorem append_none {t xt e : Nat} {x' : Value} {cs' : List Value} {d : TD} {ats : Array TypeId} (ht : (C.ty t).d = .slice e) (hd : (C.ty e).d = d) (ho : isOther d = false)
    (h0 : ats[0]? = some t) (h1 : ats[1]? = some xt) (hN : NewIs C xt (C.ty e).size e x' cs' 0 w) (ty : TypeId) (a : Option Addr) (hcs0 : cs' = []) :
    (Builtin.append_ ats ty #[.slice a 0 0, x']).run C.P w = .ok (.slice a 0 0) w := by
  subst hcs0
  obtain ⟨i, _, hi0, hi, hi1, hi2, _⟩ := info_run hC hd ho w
  cases hN with
  | zeros kd hu hx hk hcs =>
    subst hx
    have w1 : IntKind.i64.wrap 0 = 0 := IntWalk.i64_in _ (by omega)
    cases a <;> simp [Builtin.append_, h0, h1, run_underlying (under_slice hC ht), run_underlying hu, size_run hC hd ho w, asInt, asIntOf, w1, hi, storeCells]
  | cells dd hu hno hlen hfc =>
    have hfc' := hfc w rfl
    cases a <;> simp [Builtin.append_, h0, h1, run_underlying (under_slice hC ht), run_underlying hu, size_run hC hd ho w, hlen, hfc', storeCells]

theorem append_sound (R : Rep B ι m w) (hB : B ≤ w.heap.size) (hfree : ι m.length = none) {t xt : Nat} {s s' x x' v : Value} {m' : Mem} {ats : Array TypeId} (h0 : ats[0]? = some t) (h1 : ats[1]? = some xt)
    (hs : VR ι s s') (hx : VR ι x x') (h : appendOf C m t xt s x = some (v, m')) (ty : TypeId) :
    ∃ v' w' ι', (Builtin.append_ ats ty #[s', x']).run C.P w = .ok v' w' ∧ After B ι m w ι' m' w' ∧ VR ι' v v' := by
  unfold appendOf at h
  split at h
  · rename_i e ht
    have key : ∀ d, (C.ty e).d = d → isOther d = false → ∀ cs k, newCells C m xt (C.ty e).size (C.ty e).zero x = some (cs, k) → appendIn m (C.ty e).size (C.ty e).bytes s cs k = some (v, m') →
        ∃ v' w' ι', (Builtin.append_ ats ty #[s', x']).run C.P w = .ok v' w' ∧ After B ι m w ι' m' w' ∧ VR ι' v v' := by
      intro d hd ho cs k hcs hap
      clear h
      have fits := ty_fits hC hd ho
      obtain ⟨cs', hv, hcl, hcf, hN⟩ := newCells_sound hC R hd ho hx hcs
      unfold appendIn at hap
      split at hap
      · cases hs with
        | slNil a' ha' =>
        split at hap
        · rename_i hk
          subst hk
          cases hap
          have hcs0 : cs' = [] := List.eq_nil_of_length_eq_zero (by rw [← hv.1, hcl, Nat.zero_mul])
          exact ⟨_, w, ι, append_none hC ht hd ho h0 h1 hN ty a' hcs0, After.refl R, .slNil a' ha'⟩
        · rename_i hk
          split at hap
          · rename_i hb
            cases hap
            obtain ⟨cap, c, g1, g2, g3, g4⟩ := append_grow hC (w := w) (base := a') (sLen := 0) (sCap := 0) (olds := []) ht hd ho h0 h1 hN (by omega) (by simpa using hb.1) (by simpa using hb.2) (fun w2 _ => by cases a' <;> simp [Builtin.firstCells, loadCells, loadCellsFrom]) (by simp) (by rw [← hv.1]; exact hcl) ty
            have hvc := cells_of_vrl hv
            rw [Nat.zero_add] at g1 g2
            refine ⟨_, _, _, g2, After.alloc (b := ⟨cs, (C.ty e).size, true, true⟩) (c := c) (e := e) (fz := (0, 0)) R hB rfl hfree hcf ?_ ?_ (fun i _ h => by omega) rfl rfl rfl rfl, ?_⟩
            · simp only
              rw [hcl, g3]
              exact Nat.mul_le_mul_right _ (by omega)
            · intro i u hu
              obtain ⟨u', e1, e2⟩ := hvc i u hu
              exact ⟨u', g4 i u' (by simpa using e1), e2⟩
            · refine VR.sl m.length 0 k k ⟨w.heap.size, 0, c.size, (C.ty e).size⟩ 0 cap (Emb.upd_same ..) (Nat.le_refl _) g1 ?_ (.inr rfl)
              simp only [Nat.zero_add]
              rw [g3]
              exact Nat.le_refl _
          · cases hap
      · rename_i s0 p len cp
        cases hs with
        | sl n o _ _ l off ccap s1 s2 s3 s4 s5 =>
        simp only at hap
        cases hb : m[n]? with
        | none => rw [hb] at hap; cases hap
        | some b =>
          rw [hb] at hap
          simp only at hap
          split at hap
          · rename_i hc
            obtain ⟨c1, c2, c3, c4, c5⟩ := hc
            split at hap
            · rename_i old hold
              cases hap
              have hes : l.es = (C.ty e).size := by rw [← R.es n l b s1 hb, c3]
              have M := R.cells n l b s1 hb c1
              obtain ⟨c, ce, fz, m1, m2, m3, m4, m5⟩ := M.ex
              obtain ⟨hol, hof, old', hov, hoc⟩ := rd_sound R s1 hold
              have hoff : len = 0 ∨ off = l.sh + o := by
                rcases s5 with h | h
                · left; omega
                · exact .inr h
              have hnb : (old ++ cs).all flat = true := by
                rw [List.all_append, hof, hcf]
                rfl
              have hnl : (old ++ cs).length = (len + k) * (C.ty e).size := by rw [List.length_append, hol, hcl, Nat.add_mul]
              have hfirst : ∀ w2 : World, w2.heap = w.heap → (Builtin.firstCells (C.ty e).size len (.slice (some ⟨l.g, off, none⟩) len ccap)).run C.P w2 = .ok old'.toArray w2 := by
                intro w2 hw2
                rcases hoff with h | h
                · subst h
                  have : old' = [] := List.eq_nil_of_length_eq_zero (by rw [← hov.1, hol]; simp)
                  subst this
                  simp [Builtin.firstCells, loadCells, loadCellsFrom]
                · subst h
                  have := loadCells_run (C := C) (w := w2) (g := l.g) (o := l.sh + o) (k := len * (C.ty e).size) (cs := old') (by rw [← hov.1]; exact hol) (fun j v hj => by rw [cell?_heap hw2]; exact hoc j v hj)
                  simp [Builtin.firstCells, this]
              by_cases hroom : len + k ≤ ccap
              · have hfitc : off + (len + k) * (C.ty e).size ≤ l.top := by
                  have := Nat.mul_le_mul_right (C.ty e).size hroom
                  rw [hes] at s4
                  omega
                rw [Nat.add_mul] at hfitc
                have hcl' : cs'.length = k * (C.ty e).size := by rw [← hv.1]; exact hcl
                have hrun := append_room hC (g := l.g) (off := off) (sLen := len) (sCap := ccap) ht hd ho h0 h1 hN hroom (by
                  have := Nat.mul_le_mul_right (C.ty e).bytes (show k ≤ len + k by omega)
                  omega) m1 (m5 c2) (by omega) (hv.all_flat hcf) ty
                have hlen2 : (c.toList.take (off + len * (C.ty e).size) ++ cs' ++ c.toList.drop (off + len * (C.ty e).size + cs'.length)).length = c.size := by simp; omega
                refine ⟨_, _, _, hrun, After.regrow (nb := ⟨old ++ cs, (C.ty e).size, true, true⟩) (off := off) R hb s1 c1 c2 hfree c3.symm rfl hnb m1 (setRow_heap w l.g c _ ce fz m1) (fun g hg => setRow_other w l.g g _ hg) (by simp) (by simpa using hlen2) ?_ ?_ rfl rfl rfl, ?_⟩
                · simp only
                  rw [hnl, Nat.add_mul]
                  omega
                · intro i u hu
                  have hsp := splice_get (l := c.toList) (o := off + len * (C.ty e).size) (vs := cs') (by simp; omega) (off + i)
                  unfold splice at hsp
                  simp only at hu
                  rw [List.getElem?_append] at hu
                  split at hu
                  · rename_i hi
                    rw [hol] at hi
                    rw [if_neg (by omega)] at hsp
                    have hlen0 : len ≠ 0 := by rintro rfl; simp at hi
                    have ho2 := hoff.resolve_left hlen0
                    obtain ⟨y, hy1, hy2⟩ := hov.get hu
                    have := hoc i y hy1
                    refine ⟨y, ?_, hy2⟩
                    simp only [World.cell?, m1] at this
                    rw [← ho2] at this
                    rw [List.getElem?_toArray, hsp]
                    simpa using this
                  · rename_i hi
                    rw [hol] at hi hu
                    obtain ⟨y, hy1, hy2⟩ := hv.get hu
                    have hb := (List.getElem?_eq_some_iff.1 hu).1
                    rw [if_pos (by omega)] at hsp
                    refine ⟨y, ?_, hy2⟩
                    have e1 : off + i - (off + len * (C.ty e).size) = i - len * (C.ty e).size := by omega
                    rw [e1, hy1] at hsp
                    simpa using hsp
                · exact VR.sl m.length 0 (len + k) (len + k) ⟨l.g, off, l.top, l.es⟩ off ccap (Emb.upd_same ..) (Nat.le_refl _) hroom s4 (.inr rfl)
              · obtain ⟨cap, c', g1, g2, g3, g4⟩ := append_grow hC (w := w) (base := some ⟨l.g, off, none⟩) (sLen := len) (sCap := ccap) (olds := old') ht hd ho h0 h1 hN (by omega) c4 c5 hfirst (by rw [← hov.1]; exact hol) (by rw [← hv.1]; exact hcl) ty
                have K := After.kill R hb s1
                have hvc := cells_of_vrl (hov.append hv)
                have hln : (m.set n { b with live := false }).length = m.length := by simp
                have A := After.alloc (b := ⟨old ++ cs, (C.ty e).size, true, true⟩) (c := c') (e := e) (fz := (0, 0)) (w' := w.drew.alloc (.cells c' e)) K.rep hB rfl (by rw [hln]; exact hfree) hnb (by
                    simp only
                    rw [hnl, g3]
                    exact Nat.mul_le_mul_right _ g1) (fun i u hu => by
                    obtain ⟨u', e1, e2⟩ := hvc i u hu
                    exact ⟨u', g4 i u' (by simpa using e1), e2⟩) (fun i _ h => by omega) rfl rfl rfl rfl
                have F := After.trans K A
                rw [hln] at F
                refine ⟨_, _, _, g2, F, ?_⟩
                refine VR.sl m.length 0 (len + k) (len + k) ⟨w.heap.size, 0, c'.size, (C.ty e).size⟩ 0 cap (Emb.upd_same ..) (Nat.le_refl _) g1 ?_ (.inr rfl)
                simp only [Nat.zero_add]
                rw [g3]
                exact Nat.le_refl _
            · cases hap
          · cases hap
      · cases hap
    cases hd : (C.ty e).d with
    | other => simp [hd] at h
    | _ =>
      simp only [hd] at h
      split at h
      · cases h
      · exact key _ hd rfl _ _ ‹_› h
  · cases h

omit hC in
/-- An append that makes no block appends nothing to nil. -/
theorem append_same {t xt : Nat} {s x v : Value} {m' : Mem} (h : appendOf C m t xt s x = some (v, m')) (hl : m'.length ≤ m.length) : m' = m := by
  unfold appendOf at h
  split at h
  · split at h
    · cases h
    · split at h
      · cases h
      · unfold appendIn at h
        split at h
        · split at h
          · cases h; rfl
          · split at h
            · cases h; simp at hl; omega
            · cases h
        · split at h
          · split at h
            · split at h
              · cases h; simp at hl; omega
              · cases h
            · cases h
          · cases h
        · cases h
  · cases h

theorem append_sound_same (R : Rep B ι m w) {t xt : Nat} {s s' x x' v : Value} {ats : Array TypeId} (h0 : ats[0]? = some t) (h1 : ats[1]? = some xt)
    (hs : VR ι s s') (hx : VR ι x x') (h : appendOf C m t xt s x = some (v, m)) (ty : TypeId) :
    ∃ v' w', (Builtin.append_ ats ty #[s', x']).run C.P w = .ok v' w' ∧ After B ι m w ι m w' ∧ VR ι v v' := by
  unfold appendOf at h
  split at h
  · rename_i e ht
    have key : ∀ d, (C.ty e).d = d → isOther d = false → ∀ cs k, newCells C m xt (C.ty e).size (C.ty e).zero x = some (cs, k) → appendIn m (C.ty e).size (C.ty e).bytes s cs k = some (v, m) →
        ∃ v' w', (Builtin.append_ ats ty #[s', x']).run C.P w = .ok v' w' ∧ After B ι m w ι m w' ∧ VR ι v v' := by
      intro d hd ho cs k hcs hap
      clear h
      obtain ⟨cs', hv, hcl, hcf, hN⟩ := newCells_sound hC R hd ho hx hcs
      unfold appendIn at hap
      split at hap
      · cases hs with
        | slNil a' ha' =>
        split at hap
        · rename_i hk
          subst hk
          simp only [Option.some.injEq, Prod.mk.injEq] at hap
          obtain ⟨rfl, _⟩ := hap
          have hcs0 : cs' = [] := List.eq_nil_of_length_eq_zero (by rw [← hv.1, hcl, Nat.zero_mul])
          exact ⟨_, w, append_none hC ht hd ho h0 h1 hN ty a' hcs0, After.refl R, .slNil a' ha'⟩
        · split at hap
          · simp at hap
          · cases hap
      · split at hap
        · split at hap
          · split at hap
            · simp only [Option.some.injEq, Prod.mk.injEq] at hap
              have := congrArg List.length hap.2
              simp at this
            · cases hap
          · cases hap
        · cases hap
      · cases hap
    cases hd : (C.ty e).d with
    | other => simp [hd] at h
    | _ =>
      simp only [hd] at h
      split at h
      · cases h
      · exact key _ hd rfl _ _ ‹_› h
  · cases h
end
end Go.Ab
