/- Part of an own evaluator of Go code on numbered blocks, and of the proof that the machine does what it says; each theorem carries its own conditions. -/
import Derived.Test.YtkoahogalplhhaaAb4
import Derived.Lib.FrozenHead
set_option linter.unusedVariables false
set_option linter.unusedSimpArgs false
namespace Go.Ab

section
variable {C : Cfg} {B : Nat} {ι : Emb} {T : Tm} {a : Act} {m : Mem} {w : World}

/-! ## Writing -/

theorem flat_one (v : Value) : v.oneCell' = flat v := by cases v <;> rfl

/-- Cells stored into a row that is not frozen where it is written. -/
theorem storeCells_free (P : Program) (g o : Nat) (t : TypeId) (fz : Nat × Nat) : ∀ (vs : List Value) (i : Nat) (cur : Array Value) (w : World), w.heap[g]? = some (.cells cur t fz) →
    (∀ k, k < cur.size → ¬ (fz.1 ≤ k ∧ k < fz.2)) → o + i + vs.length ≤ cur.size → (∀ v ∈ vs, v.oneCell' = true) →
    (storeCells ⟨g, o, none⟩ vs i).run P w = .ok () (w.setRow g (cur.toList.take (o + i) ++ vs ++ cur.toList.drop (o + i + vs.length)).toArray)
  | [], i, cur, w, hg, _, _, _ => by
    simp only [storeCells, List.append_nil, List.length_nil, Nat.add_zero, List.take_append_drop, Array.toArray_toList]
    rw [setRow_self w g cur t fz hg]
    rfl
  | v :: rest, i, cur, w, hg, hfz, hl, h1 => by
    have hi : o + i < cur.size := by simp at hl; omega
    have hadd : (⟨g, o, none⟩ : Addr).add i = ⟨g, o + i, none⟩ := by unfold Addr.add; split <;> simp_all
    have hcell : w.cell? ⟨g, o + i, none⟩ = some cur[o + i] := by simp [World.cell?, hg, hi]
    have hfro : w.frozen? ⟨g, o + i, none⟩ = false := by
      have := hfz (o + i) hi
      obtain ⟨lo, hi'⟩ := fz
      simp only [World.frozen?, hg, Bool.and_eq_false_iff, decide_eq_false_iff_not]
      simp only at this
      omega
    have hst : (store ((⟨g, o, none⟩ : Addr).add i) v).run P w = .ok () (w.setRow g (cur.setIfInBounds (o + i) v)) := by
      rw [hadd, run_store P w _ v _ (h1 v (by simp)), hcell]
      simp [hfro, setCell_eq_setRow w g (o + i) cur t fz v hg]
    have ih := storeCells_free P g o t fz rest (i + 1) (cur.setIfInBounds (o + i) v) (w.setRow g (cur.setIfInBounds (o + i) v)) (setRow_heap w g cur _ t _ hg) (by simpa using hfz) (by simp at hl ⊢; omega) (fun x hx => h1 x (by simp [hx]))
    simp only [storeCells, Sem.run_bind, hst, Result.andThen_ok, ih, setRow_setRow]
    congr 3
    have e := list_seg_step cur.toList (o + i) v rest (by simp at hl ⊢; omega)
    simpa [Array.toList_setIfInBounds, Nat.add_assoc] using e

theorem wr_sound (R : Rep B ι m w) {n o : Nat} {l : Loc} {vs vs' : List Value} {m' : Mem} (hl : ι n = some l) (hv : VRL ι vs vs') (hf : vs.all flat = true) (h : wr m n o vs = some m') :
    ∃ w', (storeCells ⟨l.g, l.sh + o, none⟩ vs' 0).run C.P w = .ok () w' ∧ After B ι m w ι m' w' := by
  unfold wr at h
  split at h
  · rename_i he
    subst he
    cases h
    rw [hv.cases_nil]
    exact ⟨w, rfl, After.refl R⟩
  · split at h
    · rename_i b hb
      split at h
      · rename_i hc
        obtain ⟨c1, c2, c3⟩ := hc
        cases h
        obtain ⟨c, e, fz, m1, m2, m3, m4, m5⟩ := (R.cells n l b hl hb c1).ex
        have hlen := hv.1
        have hst := storeCells_free C.P l.g (l.sh + o) e fz vs' 0 c w m1 (m5 c2) (by omega) (fun v hv' => by
          rw [flat_one]
          exact List.all_eq_true.1 (hv.all_flat hf) v hv')
        simp only [Nat.add_zero] at hst
        refine ⟨_, hst, ?_⟩
        have hsz : (c.toList.take (l.sh + o) ++ vs' ++ c.toList.drop (l.sh + o + vs'.length)).length = c.size := by simp; omega
        refine After.write R hb hl c1 c2 c3 hv hf m1 (setRow_heap w l.g c _ e fz m1) (fun g hg => setRow_other w l.g g _ hg) (by simp) (by simpa using hsz) ?_ rfl rfl rfl
        intro i
        have := splice_get (l := c.toList) (o := l.sh + o) (vs := vs') (by simp; omega) i
        unfold splice at this
        simpa using this
      · cases h
    · cases h

variable (hC : CfgOK C)
include hC

theorem store_sound (R : Rep B ι m w) {t : Nat} {p p' v v' : Value} {m' : Mem} (hp : VR ι p p') (hv : VR ι v v') (h : storeOf C m t p v = some m') :
    ∃ w', (Instr.storeAt t p' v').run C.P w = .ok () w' ∧ After B ι m w ι m' w' := by
  unfold storeOf at h
  split at h
  · cases h
  · rename_i ad hno
    cases hp with
    | ptr n o l hl =>
    split at h
    · rename_i hc
      have hd : ∃ d, (C.ty t).d = d ∧ isOther d = false := by
        refine ⟨_, rfl, ?_⟩
        cases hd : (C.ty t).d with
        | other => exact absurd hd (by simpa using hno)
        | _ => rfl
      obtain ⟨d, hd, ho⟩ := hd
      obtain ⟨w', h1, h2⟩ := wr_sound (C := C) R hl hv.cells hc.2 h
      have hsz : v'.cells.size = (C.ty t).size := by
        have := hv.cells.1
        simp only [Array.length_toList] at this
        omega
      refine ⟨w', ?_, h2⟩
      unfold Instr.storeAt storeVar
      simp [Instr.sureAddr, size_run hC hd ho w, hsz, h1]
    · cases h
  · cases h

theorem clear_sound (R : Rep B ι m w) {t : Nat} {x x' v : Value} {m' : Mem} {ats : Array TypeId} (hx : VR ι x x') (ht : ats[0]? = some t) (h : clearOf C m t x = some (v, m')) (ty : TypeId) :
    ∃ w', (Builtin.clear_ ats ty #[x']).run C.P w = .ok v w' ∧ VR ι v v ∧ After B ι m w ι m' w' := by
  have unit : VR ι (.tuple #[]) (.tuple #[]) := .tuple _ _ rfl (fun i x y h => by simp at h)
  unfold clearOf at h
  split at h
  · rename_i e p n cap hd
    have key : ∀ d, (C.ty e).d = d → isOther d = false → clearIn m (C.ty e).zero n p = some (v, m') → ∃ w', (Builtin.clear_ ats ty #[x']).run C.P w = .ok v w' ∧ VR ι v v ∧ After B ι m w ι m' w' := by
      intro d hd' ho q
      clear h
      unfold clearIn at q
      split at q
      · rename_i hn
        subst hn
        cases q
        refine ⟨w, ?_, unit, After.refl R⟩
        cases hx with
        | slNil a' _ => cases a' <;> simp [Builtin.clear_, ht, run_underlying (under_slice hC hd)]
        | sl n o len acap l off ccap h1 h2 h3 h4 h5 => simp [Builtin.clear_, ht, run_underlying (under_slice hC hd)]
      · rename_i hn
        cases hx with
        | slNil a' _ => exact absurd rfl hn
        | sl k o _ acap l off ccap h1 h2 h3 h4 h5 =>
        simp only at q
        cases hw : wr m k o (List.replicate n (C.ty e).zero).flatten with
        | none => rw [hw] at q; cases q
        | some m1 =>
          rw [hw] at q
          cases q
          have fits := ty_fits hC hd' ho
          have hz := VRL.flat_rep (ι := ι) fits.const n
          have hff : ((List.replicate n (C.ty e).zero).flatten).all flat = true := by
            rw [List.all_eq_true]
            intro y hy
            rw [List.mem_flatten] at hy
            obtain ⟨l', hl', hy⟩ := hy
            rw [List.mem_replicate] at hl'
            have := fits.const y (hl'.2 ▸ hy)
            revert this
            cases y <;> simp [constOk, flat]
          have hoff : off = l.sh + o := h5.resolve_left (by omega)
          subst hoff
          obtain ⟨w', e1, e2⟩ := wr_sound (C := C) R h1 hz hff hw
          refine ⟨w', ?_, unit, e2⟩
          obtain ⟨z, hz1, hz2⟩ := zero_run hC hd' ho w
          have hcl : (Builtin.zeroCells z.cells n).toList = (List.replicate n (C.ty e).zero).flatten := by
            unfold Builtin.zeroCells
            rw [range_rep, ← hz2]
          obtain ⟨n, rfl⟩ : ∃ k, n = k + 1 := ⟨n - 1, by omega⟩
          simp [Builtin.clear_, ht, run_underlying (under_slice hC hd), hz1, hcl, e1]
    cases hd' : (C.ty e).d with
    | other => simp [hd'] at h
    | _ => exact key _ hd' rfl (by simpa [hd'] using h)
  · cases h

omit hC in
theorem ofBytes_consts (s : ByteArray) : ∀ x ∈ ofBytes s, constOk x = true := fun x hx => by
  unfold ofBytes at hx
  rw [List.mem_map] at hx
  obtain ⟨b, _, rfl⟩ := hx
  rfl

omit hC in
theorem firstCells_str (s : ByteArray) (sz n : Nat) : (Builtin.firstCells sz n (.string s)).run C.P w = .ok ((ofBytes s).take n).toArray w := by
  simp only [Builtin.firstCells, Sem.run_pure]
  congr 1
  apply Array.ext'
  simp [ofBytes]

theorem copy_sound (R : Rep B ι m w) {t xt : Nat} {x x' y y' v : Value} {m' : Mem} {ats : Array TypeId} (hx : VR ι x x') (hy : VR ι y y') (ht : ats[0]? = some t) (h : copyOf C m t xt x y = some (v, m')) (ty : TypeId) :
    ∃ w', (Builtin.copy_ ats ty #[x', y']).run C.P w = .ok v w' ∧ VR ι v v ∧ After B ι m w ι m' w' := by
  unfold copyOf at h
  split at h
  · rename_i e p dl cap hd
    have sl : ∀ d, (C.ty e).d = d → isOther d = false → ∀ q n cap', VR ι (.slice q n cap') y' → copyIn m (C.ty e).size p dl q n = some (v, m') → ∃ w', (Builtin.copy_ ats ty #[x', y']).run C.P w = .ok v w' ∧ VR ι v v ∧ After B ι m w ι m' w' := by
      intro d hd' ho q n cap' hq r
      clear hy h
      cases hx with
      | slNil a1 _ =>
        cases q with
        | none =>
          cases hq with
          | slNil a2 _ =>
            simp only [copyIn] at r
            cases r
            exact ⟨w, by cases a1 <;> cases a2 <;> simp [Builtin.copy_, ht, run_underlying (under_slice hC hd), Builtin.lenOf, size_run hC hd' ho w, Builtin.firstCells, goInt, loadCells, loadCellsFrom, storeCells], .int _ _, After.refl R⟩
        | some q =>
          simp only [copyIn] at r
          split at r
          · rename_i hm
            cases r
            cases hq with
            | sl k o _ acap l off ccap h1 h2 h3 h4 h5 =>
            refine ⟨w, ?_, .int _ _, After.refl R⟩
            have : min n 0 = 0 := by omega
            cases a1 <;> simp [Builtin.copy_, ht, run_underlying (under_slice hC hd), Builtin.lenOf, size_run hC hd' ho w, Builtin.firstCells, goInt, loadCells, loadCellsFrom, storeCells]
          · cases r
      | sl pn po _ pacap pl poff pccap p1 p2 p3 p4 p5 =>
        cases q with
        | none =>
          simp only [copyIn] at r
          split at r
          · rename_i hm
            cases r
            cases hq with
            | slNil a2 _ =>
            refine ⟨w, ?_, .int _ _, After.refl R⟩
            cases a2 <;> simp [Builtin.copy_, ht, run_underlying (under_slice hC hd), Builtin.lenOf, size_run hC hd' ho w, Builtin.firstCells, goInt, storeCells, loadCells, loadCellsFrom]
          · cases r
        | some q =>
          cases hq with
          | sl k o _ acap l off ccap h1 h2 h3 h4 h5 =>
          simp only [copyIn] at r
          split at r
          · rename_i cs hr
            cases hw : wr m pn po cs with
            | none => rw [hw] at r; cases r
            | some m1 =>
              rw [hw] at r
              cases r
              obtain ⟨hcl, hfl, cs', hv, hcells⟩ := rd_sound R h1 hr
              by_cases h0 : min n dl = 0
              · have : cs = [] := by apply List.eq_nil_of_length_eq_zero; rw [hcl, h0, Nat.zero_mul]
                subst this
                simp only [wr, if_true] at hw
                cases hw
                refine ⟨w, ?_, .int _ _, After.refl R⟩
                have h0' : Nat.min n dl = 0 := h0
                simp [Builtin.copy_, ht, run_underlying (under_slice hC hd), Builtin.lenOf, size_run hC hd' ho w, Builtin.firstCells, goInt, h0', loadCells, loadCellsFrom, storeCells]
              · have e1 : off = l.sh + o := h5.resolve_left (by omega)
                have e2 : poff = pl.sh + po := p5.resolve_left (by omega)
                subst e1
                subst e2
                have hrun := loadCells_run (C := C) (g := l.g) (o := l.sh + o) (k := min n dl * (C.ty e).size) (cs := cs') (w := w) (by rw [← hv.1]; exact hcl) hcells
                obtain ⟨w', s1, s2⟩ := wr_sound (C := C) R p1 hv hfl hw
                refine ⟨w', ?_, .int _ _, s2⟩
                have hm : Nat.min n dl = min n dl := rfl
                simp [Builtin.copy_, ht, run_underlying (under_slice hC hd), Builtin.lenOf, size_run hC hd' ho w, Builtin.firstCells, goInt, hm, hrun, s1]
          · cases r
    have rs : ∀ d, (C.ty e).d = d → isOther d = false → ∀ (sl : Nat) cs, VR ι (.iface sl (.agg cs)) y' → copyRo m (C.ty e).size p dl sl cs.toList = some (v, m') → ∃ w', (Builtin.copy_ ats ty #[x', y']).run C.P w = .ok v w' ∧ VR ι v v ∧ After B ι m w ι m' w' := by
      intro d hd' ho n cs hq r
      clear hy h
      unfold copyRo at r
      split at r
      · rename_i q
        split at r
        · rename_i hcs
          cases hw : wr m q.block q.off (cs.toList.take (min n dl * (C.ty e).size)) with
          | none => rw [hw] at r; cases r
          | some m1 =>
            rw [hw] at r
            cases r
            cases hx with
            | sl pn po _ pacap pl poff pccap p1 p2 p3 p4 p5 =>
            have hm : Nat.min n dl = min n dl := rfl
            have nothing : min n dl = 0 → m' = m := fun h0 => by
              rw [h0] at hw
              simp only [Nat.zero_mul, List.take_zero, wr, if_true] at hw
              cases hw; rfl
            cases hq with
            | ro _ _ g0 off0 ccap c0 hz hs hl hr hfl =>
              by_cases h0 : min n dl = 0
              · cases nothing h0
                refine ⟨w, ?_, .int _ _, After.refl R⟩
                have h0' : Nat.min n dl = 0 := h0
                simp [Builtin.copy_, ht, run_underlying (under_slice hC hd), Builtin.lenOf, size_run hC hd' ho w, Builtin.firstCells, goInt, h0', loadCells, loadCellsFrom, storeCells]
              · have e2 : poff = pl.sh + po := p5.resolve_left (by omega)
                subst e2
                have hle : min n dl * (C.ty e).size ≤ cs.size := by
                  have h1 : cs.size = n * (C.ty e).size := by simpa using hcs
                  rw [h1]
                  exact Nat.mul_le_mul_right _ (Nat.min_le_left _ _)
                obtain ⟨cs', hv, hcl, hcells⟩ := fz_cells R hz hs hr _ hle
                have hrun := loadCells_run (C := C) (g := g0) (o := off0) (k := min n dl * (C.ty e).size) (cs := cs') (w := w) hcl hcells
                have hff : (cs.toList.take (min n dl * (C.ty e).size)).all flat = true := by
                  rw [List.all_eq_true] at hfl ⊢
                  exact fun x hx => hfl x (List.mem_of_mem_take hx)
                obtain ⟨w', s1, s2⟩ := wr_sound (C := C) R p1 hv hff hw
                refine ⟨w', ?_, .int _ _, s2⟩
                simp [Builtin.copy_, ht, run_underlying (under_slice hC hd), Builtin.lenOf, size_run hC hd' ho w, Builtin.firstCells, goInt, hm, hrun, s1]
            | ro0 a2 ccap ha =>
              cases nothing (by omega)
              refine ⟨w, ?_, .int _ _, After.refl R⟩
              cases a2 <;> simp [Builtin.copy_, ht, run_underlying (under_slice hC hd), Builtin.lenOf, size_run hC hd' ho w, Builtin.firstCells, goInt, loadCells, loadCellsFrom, storeCells]
        · cases r
      · cases r
    have st : ∀ d, (C.ty e).d = d → isOther d = false → ∀ s, y' = .string s → copyStr m (C.ty e).size p dl s = some (v, m') → ∃ w', (Builtin.copy_ ats ty #[x', y']).run C.P w = .ok v w' ∧ VR ι v v ∧ After B ι m w ι m' w' := by
      intro d hd' ho s hs r
      subst hs
      clear hy h
      unfold copyStr at r
      split at r
      · rename_i q
        split at r
        · rename_i hes
          cases hw : wr m q.block q.off ((ofBytes s).take (min s.size dl)) with
          | none => rw [hw] at r; cases r
          | some m1 =>
            rw [hw] at r
            cases r
            cases hx with
            | sl pn po _ pacap pl poff pccap p1 p2 p3 p4 p5 =>
            have hcs : ∀ x ∈ (ofBytes s).take (min s.size dl), constOk x = true := fun x hx => ofBytes_consts s x (List.mem_of_mem_take hx)
            have hf := firstCells_str (C := C) (w := w) s (C.ty e).size (min s.size dl)
            have hm : Nat.min s.size dl = min s.size dl := rfl
            by_cases h0 : min s.size dl = 0
            · rw [h0] at hw
              simp only [List.take_zero, wr, if_true] at hw
              cases hw
              refine ⟨w, ?_, .int _ _, After.refl R⟩
              rw [h0] at hf
              have h0' : Nat.min s.size dl = 0 := h0
              simp only [List.take_zero] at hf
              simp [Builtin.copy_, ht, run_underlying (under_slice hC hd), Builtin.lenOf, size_run hC hd' ho w, goInt, h0', hf, storeCells]
            · have e2 : poff = pl.sh + po := p5.resolve_left (by omega)
              subst e2
              obtain ⟨w', s1, s2⟩ := wr_sound (C := C) R p1 (.consts hcs) (const_flat hcs) hw
              refine ⟨w', ?_, .int _ _, s2⟩
              simp [Builtin.copy_, ht, run_underlying (under_slice hC hd), Builtin.lenOf, size_run hC hd' ho w, goInt, hm, hf, s1]
        · cases r
      · cases r
    have key : ∀ d, (C.ty e).d = d → isOther d = false → copyAny C m xt (C.ty e).size p dl y = some (v, m') → ∃ w', (Builtin.copy_ ats ty #[x', y']).run C.P w = .ok v w' ∧ VR ι v v ∧ After B ι m w ι m' w' := by
      intro d hd' ho r
      unfold copyAny at r
      split at r
      · exact sl d hd' ho _ _ _ hy r
      · exact rs d hd' ho _ _ hy r
      · rename_i s _
        have e : y' = .string s := by
          generalize y' = z at hy
          cases hy
          rfl
        exact st d hd' ho _ e r
      · cases r
    cases hd' : (C.ty e).d with
    | other => simp [hd'] at h
    | _ => exact key _ hd' rfl (by simpa [hd'] using h)
  · cases h

/-! ## Append -/

/-- What is appended, as the machine has it: how many elements, and their cells. -/
inductive NewIs (C : Cfg) (xt es : Nat) (e : TypeId) (x' : Value) (cs' : List Value) (k : Nat) (w : World) : Prop where
  | zeros (kd : IntKind) : C.P.underlying xt = some (.int kd) → x' = .int .i64 k → k ≤ 140737488355328 → cs' = (List.replicate k (C.ty e).zero).flatten → NewIs C xt es e x' cs' k w
  | cells (d : TypeDesc) : C.P.underlying xt = some d → (∀ kd, d ≠ .int kd) → (∀ w, (Builtin.lenOf x').run C.P w = .ok k w) →
      (∀ w2 : World, w2.heap = w.heap → (Builtin.firstCells es k x').run C.P w2 = .ok cs'.toArray w2) → NewIs C xt es e x' cs' k w

omit hC in
theorem cell?_heap {w w2 : World} (h : w2.heap = w.heap) (x : Addr) : w2.cell? x = w.cell? x := by simp [World.cell?, h]

theorem newCells_sound (R : Rep B ι m w) {xt e : Nat} {x x' : Value} {cs : List Value} {k : Nat} {d : TD} (hd : (C.ty e).d = d) (ho : isOther d = false) (hx : VR ι x x')
    (h : newCells C m xt (C.ty e).size (C.ty e).zero x = some (cs, k)) :
    ∃ cs', VRL ι cs cs' ∧ cs.length = k * (C.ty e).size ∧ cs.all flat = true ∧ NewIs C xt (C.ty e).size e x' cs' k w := by
  have fits := ty_fits hC hd ho
  unfold newCells at h
  split at h
  · rename_i kd n hx'
    cases hx
    split at h
    · rename_i hn
      cases h
      refine ⟨_, VRL.flat_rep fits.const _, by rw [flat_rep_length, fits.len], rep_flat (const_flat fits.const) _, .zeros kd (under_int hC hx') ?_ (by omega) rfl⟩
      congr 1
      omega
    · cases h
  · rename_i hx'
    cases h
    cases hx with
    | slNil a' _ =>
    refine ⟨[], .nil, by simp, rfl, .cells _ (under_slice hC hx') (fun _ h => by cases h) (fun w => by simp [Builtin.lenOf]) (fun w2 _ => by cases a' <;> simp [Builtin.firstCells, loadCells, loadCellsFrom])⟩
  · rename_i p len cp hx'
    cases hx with
    | sl n o _ acap l off ccap h1 h2 h3 h4 h5 =>
    simp only at h
    cases hr : rd m n o (len * (C.ty e).size) with
    | none => rw [hr] at h; cases h
    | some cs0 =>
      rw [hr] at h
      cases h
      obtain ⟨hl, hfl, cs', hv, hc⟩ := rd_sound R h1 hr
      refine ⟨cs', hv, hl, hfl, .cells _ (under_slice hC hx') (fun _ h => by cases h) (fun w => by simp [Builtin.lenOf]) (fun w2 hw2 => ?_)⟩
      by_cases h0 : k = 0
      · subst h0
        have : cs' = [] := by apply List.eq_nil_of_length_eq_zero; rw [← hv.1, hl]; simp
        subst this
        simp [Builtin.firstCells, loadCells, loadCellsFrom]
      · have e1 : off = l.sh + o := h5.resolve_left (by omega)
        subst e1
        have := loadCells_run (C := C) (w := w2) (g := l.g) (o := l.sh + o) (k := k * (C.ty e).size) (cs := cs') (by rw [← hv.1]; exact hl) (fun j v hj => by rw [cell?_heap hw2]; exact hc j v hj)
        simp [Builtin.firstCells, this]
  · rename_i len cs0 hx'
    split at h
    · rename_i hsz
      cases h
      cases hx with
      | ro _ _ g0 off0 ccap c0 hz hs hl hr hfl =>
        obtain ⟨cs', hv, hcl, hcells⟩ := fz_cells R hz hs hr cs0.size (Nat.le_refl _)
        have ht : cs0.toList.take cs0.size = cs0.toList := by apply List.take_of_length_le; simp
        rw [ht] at hv
        refine ⟨cs', hv, by simpa using hsz, hfl, .cells _ (under_slice hC hx') (fun _ h => by cases h) (fun w => by simp [Builtin.lenOf]) (fun w2 hw2 => ?_)⟩
        have := loadCells_run (C := C) (w := w2) (g := g0) (o := off0) (k := cs0.size) (cs := cs') hcl (fun j v hj => by rw [cell?_heap hw2]; exact hcells j v hj)
        rw [hsz] at this
        simp [Builtin.firstCells, this]
      | ro0 a' ccap ha =>
        refine ⟨[], .nil, by simp, rfl, .cells _ (under_slice hC hx') (fun _ h => by cases h) (fun w => by simp [Builtin.lenOf]) (fun w2 _ => by cases a' <;> simp [Builtin.firstCells, loadCells, loadCellsFrom])⟩
    · cases h
  · rename_i s hx'
    cases hx
    split at h
    · rename_i hes
      cases h
      refine ⟨ofBytes s, .consts (ofBytes_consts s), ?_, const_flat (ofBytes_consts s), .cells _ (under_str hC hx') (fun _ h => by cases h) (fun w => by simp [Builtin.lenOf]) (fun w2 _ => ?_)⟩
      · rw [hes]; simp [ofBytes]
      · have := firstCells_str (C := C) (w := w2) s (C.ty e).size s.size
        rw [this]
        congr 2
        apply List.take_of_length_le
        simp [ofBytes]
    · cases h
  · cases h

theorem zeroCells_list {e : Nat} {d : TD} (hd : (C.ty e).d = d) (ho : isOther d = false) (w : World) :
    ∃ z, (zeroValue e).run C.P w = .ok z w ∧ z.cells.size = (C.ty e).size ∧ ∀ k, Builtin.zeroCells z.cells k = ((List.replicate k (C.ty e).zero).flatten).toArray := by
  obtain ⟨z, hz1, hz2⟩ := zero_run hC hd ho w
  have fits := ty_fits hC hd ho
  refine ⟨z, hz1, by rw [← fits.len, ← hz2]; simp, fun k => ?_⟩
  unfold Builtin.zeroCells
  rw [range_rep, hz2]

/-- The append that finds room. -/
theorem append_room {t xt e k g off sLen sCap : Nat} {x' : Value} {cs' : List Value} {d : TD} {ats : Array TypeId} (ht : (C.ty t).d = .slice e) (hd : (C.ty e).d = d) (ho : isOther d = false)
    (h0 : ats[0]? = some t) (h1 : ats[1]? = some xt) (hN : NewIs C xt (C.ty e).size e x' cs' k w) (hroom : sLen + k ≤ sCap) (hb : k * (C.ty e).bytes ≤ 281474976710656)
    {c : Array Value} {ce : TypeId} {fz : Nat × Nat} (hc : w.heap[g]? = some (.cells c ce fz)) (hfz : ∀ i, i < c.size → ¬ (fz.1 ≤ i ∧ i < fz.2))
    (hfit : off + sLen * (C.ty e).size + cs'.length ≤ c.size) (hfl : cs'.all flat = true) (ty : TypeId) :
    (Builtin.append_ ats ty #[.slice (some ⟨g, off, none⟩) sLen sCap, x']).run C.P w =
      .ok (.slice (some ⟨g, off, none⟩) (sLen + k) sCap) (w.setRow g (c.toList.take (off + sLen * (C.ty e).size) ++ cs' ++ c.toList.drop (off + sLen * (C.ty e).size + cs'.length)).toArray) := by
  have hst := storeCells_free C.P g (off + sLen * (C.ty e).size) ce fz cs' 0 c w hc hfz (by omega) (fun v hv => by rw [flat_one]; exact List.all_eq_true.1 hfl v hv)
  simp only [Nat.add_zero] at hst
  obtain ⟨i, _, hi0, hi, hi1, hi2, _⟩ := info_run hC hd ho w
  cases hN with
  | zeros kd hu hx hk hcs =>
    subst hx
    have w1 : IntKind.i64.wrap (k : Int) = k := IntWalk.i64_in _ (by omega)
    have hb' : ¬ (281474976710656 < (k : Int) * (C.ty e).bytes) := by omega
    obtain ⟨z, hz1, hz2, hz5⟩ := zeroCells_list hC hd ho w
    have hz3 := hz5 k
    rw [← hcs] at hz3
    have hk0 : ¬ ((k : Int) < 0) := by omega
    by_cases hn : k * (C.ty e).size = 0
    · have : cs' = [] := by
        rw [hcs]
        apply List.eq_nil_of_length_eq_zero
        rw [flat_rep_length, (ty_fits hC hd ho).len, hn]
      subst this
      simp [Builtin.append_, h0, h1, run_underlying (under_slice hC ht), run_underlying hu, size_run hC hd ho w, asInt, asIntOf, w1, hk0, hi, hi2, hb', hroom, hn, storeCells, Addr.add_lit]
      exact (setRow_self w g c ce fz hc).symm
    · simp [Builtin.append_, h0, h1, run_underlying (under_slice hC ht), run_underlying hu, size_run hC hd ho w, asInt, asIntOf, w1, hk0, hi, hi2, hb', hroom, hn, hz1, hz3, Addr.add_lit, hst]
  | cells dd hu hno hlen hfc =>
    have hfc' := hfc w rfl
    simp [Builtin.append_, h0, h1, run_underlying (under_slice hC ht), run_underlying hu, size_run hC hd ho w, hlen, hroom, hfc', Addr.add_lit, hst]

/-- The append that makes a new row. -/
theorem append_grow {t xt e k sLen sCap : Nat} {base : Option Addr} {x' : Value} {cs' olds : List Value} {d : TD} {ats : Array TypeId} (ht : (C.ty t).d = .slice e) (hd : (C.ty e).d = d) (ho : isOther d = false)
    (h0 : ats[0]? = some t) (h1 : ats[1]? = some xt) (hN : NewIs C xt (C.ty e).size e x' cs' k w) (hg : sCap < sLen + k) (hb : (sLen + k) * (C.ty e).bytes ≤ 140737488355328) (hk : sLen + k ≤ 140737488355328)
    (hold : ∀ w2 : World, w2.heap = w.heap → (Builtin.firstCells (C.ty e).size sLen (.slice base sLen sCap)).run C.P w2 = .ok olds.toArray w2) (hol : olds.length = sLen * (C.ty e).size) (hcl : cs'.length = k * (C.ty e).size) (ty : TypeId) :
    ∃ cap c, sLen + k ≤ cap ∧ (Builtin.append_ ats ty #[.slice base sLen sCap, x']).run C.P w = .ok (.slice (some ⟨w.heap.size, 0, none⟩) (sLen + k) cap) (w.drew.alloc (.cells c e)) ∧
      c.size = cap * (C.ty e).size ∧ (∀ (i : Nat) v, (olds ++ cs')[i]? = some v → c[i]? = some v) := by
  obtain ⟨i, _, hi0, hi, hi1, hi2, _⟩ := info_run hC hd ho w
  have hnr : ¬ (sLen + k ≤ sCap) := by omega
  have hfit := growslice_fits hg hb
  have h48 : ¬ (281474976710656 < Builtin.nextslicecap (sLen + k) sCap * (C.ty e).bytes) := by omega
  have h63 : ¬ (9223372036854775807 < ((sLen : Int) + (k : Int))) := by omega
  have hkb : k * (C.ty e).bytes ≤ 140737488355328 := Nat.le_trans (Nat.mul_le_mul_right _ (by omega)) hb
  have hcap : sLen + k ≤ grownCap w (sLen + k) sCap e := by unfold grownCap; exact Nat.le_add_right _ _
  obtain ⟨z, hz1, hz2, hz5⟩ := zeroCells_list hC hd ho w.drew
  have hz3 := hz5 (grownCap w (sLen + k) sCap e - (sLen + k))
  have hold' := hold w.drew rfl
  have hz4 := hz3
  unfold grownCap at hz4
  refine ⟨grownCap w (sLen + k) sCap e, (olds ++ cs').toArray ++ ((List.replicate (grownCap w (sLen + k) sCap e - (sLen + k)) (C.ty e).zero).flatten).toArray, hcap, ?_, ?_, ?_⟩
  · have hi' : (typeInfo e).run C.P w.drew = .ok i w.drew := by obtain ⟨i', _, a1, a2, _⟩ := info_run hC hd ho w.drew; rw [hi0] at a1; cases a1; exact a2
    cases hN with
    | zeros kd hu hx hk' hcs =>
      subst hx
      have w1 : IntKind.i64.wrap (k : Int) = k := IntWalk.i64_in _ (by omega)
      have hb' : ¬ (281474976710656 < (k : Int) * (C.ty e).bytes) := by omega
      have hk0 : ¬ ((k : Int) < 0) := by omega
      have hy3 := hz5 k
      rw [← hcs] at hy3
      by_cases hn : k * (C.ty e).size = 0
      · have : cs' = [] := List.eq_nil_of_length_eq_zero (by rw [hcl, hn])
        subst this
        simp [Builtin.append_, h0, h1, run_underlying (under_slice hC ht), run_underlying hu, size_run hC hd ho w, asInt, asIntOf, w1, hk0, hi, hi2, hb', hnr, hn, h63, h48, Question.forced, hold', hi', hz1, hz4, newRow, grownCap]
      · simp [Builtin.append_, h0, h1, run_underlying (under_slice hC ht), run_underlying hu, size_run hC hd ho w, asInt, asIntOf, w1, hk0, hi, hi2, hb', hnr, hn, h63, h48, Question.forced, hold', hi', hy3, hz1, hz4, newRow, grownCap]
    | cells dd hu hno hlen hfc =>
      have hfc' := hfc w.drew rfl
      simp [Builtin.append_, h0, h1, run_underlying (under_slice hC ht), run_underlying hu, size_run hC hd ho w, hlen, hnr, hi, hi2, h63, h48, Question.forced, hold', hi', hfc', hz1, hz4, newRow, grownCap]
  · simp only [Array.size_append, List.size_toArray, List.length_append, hol, hcl, flat_rep_length, (ty_fits hC hd ho).len]
    rw [← Nat.add_mul, ← Nat.add_mul]
    congr 1
    omega
  · intro i v hv
    have hi := (List.getElem?_eq_some_iff.1 hv).1
    rw [Array.getElem?_append_left (by simpa using hi)]
    simpa using hv
end
end Go.Ab
