/- Part of an own evaluator of Go code on numbered blocks, and of the proof that the machine does what it says; each theorem carries its own conditions. -/
import Derived.Test.YtkoahogalplhhaaAb3
set_option linter.unusedVariables false
set_option linter.unusedSimpArgs false
namespace Go.Ab

section
variable {C : Cfg} {ι : Emb} {T : Tm} {a : Act}

/-! ### Struct values -/

theorem foldl_set_list (cs : List Value) (vs : List Value) (off k : Nat) (h : off + k + vs.length ≤ cs.length) :
    ((vs.zipIdx k).foldl (fun (c : Array Value) (p : Value × Nat) => c.setIfInBounds (off + p.2) p.1) cs.toArray) = (splice cs (off + k) vs).toArray := by
  induction vs generalizing cs k with
  | nil => simp [splice]
  | cons v vs ih =>
    have hk : off + k < cs.length := by simp at h; omega
    simp only [List.zipIdx_cons, List.foldl_cons, List.setIfInBounds_toArray]
    rw [ih (cs.set (off + k) v) (k + 1) (by simp at h ⊢; omega)]
    congr 1
    have := list_seg_step cs (off + k) v vs (by simp at h; omega)
    unfold splice
    simp only [Nat.add_assoc, List.length_cons] at this ⊢
    rw [show off + (k + (vs.length + 1)) = off + (k + (vs.length + 1)) from rfl]
    simpa [Nat.add_assoc] using this

theorem VRL.splice {xs ys vs us : List Value} (h : VRL ι xs ys) (g : VRL ι vs us) (o : Nat) : VRL ι (splice xs o vs) (splice ys o us) := by
  unfold Ab.splice
  rw [← g.1]
  exact ((h.take o).append g).append (h.drop _)

theorem VRP.cases_cons {i : Nat} {v : Value} {ps qs : List (Nat × Value)} (h : VRP ι ((i, v) :: ps) qs) : ∃ u rs, qs = (i, u) :: rs ∧ VR ι v u ∧ VRP ι ps rs := by
  cases qs with
  | nil => have := h.1; simp at this
  | cons q rs =>
    obtain ⟨j, u⟩ := q
    have h1 := h.1
    simp at h1
    obtain ⟨rfl, h1⟩ := h1
    exact ⟨u, rs, rfl, h.2.head, h1, h.2.tail⟩

theorem VRP.cases_nil {qs : List (Nat × Value)} (h : VRP ι [] qs) : qs = [] := by
  cases qs with
  | nil => rfl
  | cons q rs => have := h.1; simp at this

/-- Parts laid into cells: as the machine lays them. -/
theorem fill_sound {place place' : Nat → Option (Nat × Nat)} (hp : ∀ i x, place i = some x → place' i = some x) : ∀ {ps qs : List (Nat × Value)} {cs ds r : List Value},
    VRP ι ps qs → VRL ι cs ds → fillL place cs ps = some r → ∃ r', Instr.fill place' ds.toArray qs = some r'.toArray ∧ VRL ι r r'
  | [], qs, cs, ds, r, h, hc, hf => by
    rw [h.cases_nil]
    simp only [fillL] at hf
    cases hf
    exact ⟨ds, rfl, hc⟩
  | (i, v) :: ps, qs, cs, ds, r, h, hc, hf => by
    obtain ⟨u, rs, rfl, hv, ht⟩ := h.cases_cons
    simp only [fillL] at hf
    cases hpl : place i with
    | none => rw [hpl] at hf; cases hf
    | some x =>
      obtain ⟨off, size⟩ := x
      rw [hpl] at hf
      simp only at hf
      split at hf
      · rename_i hs
        obtain ⟨hs1, hs2⟩ := hs
        have hvc := hv.cells
        have hus : u.cells.size = size := by
          have := hvc.1
          simp only [Array.length_toList] at this
          omega
        obtain ⟨r', e, hr⟩ := fill_sound hp ht (hc.splice hvc off) hf
        refine ⟨r', ?_, hr⟩
        simp only [Instr.fill, hp i _ hpl]
        have hcl := hc.1
        rw [if_neg (by simp only [List.size_toArray, ne_eq, Bool.or_eq_true, decide_eq_true_eq]; omega)]
        have hfold := foldl_set_list ds u.cells.toList off 0 (by simp only [Array.length_toList]; omega)
        simp only [Nat.add_zero] at hfold
        rw [← e, ← hfold]
        congr 1
        rw [← Array.foldl_toList]
        congr 1
        simp
      · cases hf

variable (hC : CfgOK C)
include hC

omit hC in
theorem mapM_places (gs : List Field) (hk : ∀ g ∈ gs, (C.P.info? g.type).isSome = true) (w : World) :
    (gs.mapM (m := Sem) (fun f => do pure (f.offset, ← sizeOf f.type) : Field → Sem (Nat × Nat))).run C.P w = .ok (gs.map fun f => (f.offset, C.P.cellsOf f.type)) w := by
  induction gs with
  | nil => simp
  | cons g gs ih =>
    have h1 : (sizeOf g.type).run C.P w = .ok (C.P.cellsOf g.type) w := by
      obtain ⟨i, hi⟩ := Option.isSome_iff_exists.1 (hk g (by simp))
      exact run_sizeOf w hi
    have h2 := ih fun x hx => hk x (by simp [hx])
    simp only [List.mapM_cons, Sem.run_bind, h1, Result.andThen_ok, Sem.run_pure, h2, List.map_cons]

theorem cells_of {t : Nat} {d : TD} (h : (C.ty t).d = d) (hd : isOther d = false) : C.P.cellsOf t = (C.ty t).size := by
  obtain ⟨i, _, z, h1, _, _, h4, _⟩ := (ty_fits hC h hd).ex
  simp [Program.cellsOf, h1, h4]

theorem build_sound {t : Nat} {ps qs : List (Nat × Value)} {v : Value} (hp : VRP ι ps qs) (h : buildOf C t ps = some v) :
    ∃ v', VR ι v v' ∧ ∀ w, (Instr.build t qs.toArray).run C.P w = .ok v' w := by
  unfold buildOf at h
  split at h
  · rename_i fs hd
    cases hf : fillL (structPlace C fs) (C.ty t).zero ps with
    | none => rw [hf] at h; cases h
    | some r =>
      rw [hf] at h
      cases h
      obtain ⟨gs, hu, hg⟩ := under_struct hC hd
      have fits := ty_fits hC hd rfl
      have hplace : ∀ i x, structPlace C fs i = some x → (gs.map fun f => (f.offset, C.P.cellsOf f.type))[i]? = some x := by
        intro i x hx
        unfold structPlace at hx
        cases hfi : fs[i]? with
        | none => rw [hfi] at hx; cases hx
        | some p =>
          obtain ⟨off, ft⟩ := p
          rw [hfi] at hx
          rw [← hg, List.getElem?_map] at hfi
          cases hgi : gs.toList[i]? with
          | none => rw [hgi] at hfi; cases hfi
          | some g =>
            rw [hgi] at hfi
            simp only [Option.map_some, Option.some.injEq, Prod.mk.injEq] at hfi
            obtain ⟨rfl, rfl⟩ := hfi
            have hgi' : gs[i]? = some g := by simpa using hgi
            cases hd' : (C.ty g.type).d with
            | other => simp [hd'] at hx
            | _ =>
              simp only [hd', Option.some.injEq] at hx
              subst hx
              simp [hgi', cells_of hC hd' rfl]
      have hzero : VRL ι (C.ty t).zero (C.ty t).zero := .consts fits.const
      obtain ⟨r', e, hr⟩ := fill_sound hplace hp hzero hf
      refine ⟨.agg r'.toArray, hr.agg, fun w => ?_⟩
      obtain ⟨z, hz, hz2⟩ := zero_run hC hd rfl w
      have hz3 : z.cells = (C.ty t).zero.toArray := by rw [← hz2]
      have hk : ∀ g ∈ gs.toList, (C.P.info? g.type).isSome = true := fun g hg' => fits.fields fs hd (g.offset, g.type) (by rw [← hg]; exact List.mem_map.2 ⟨g, hg', rfl⟩)
      have hm := mapM_places (C := C) gs.toList hk w
      unfold Instr.build
      simp only [Sem.run_bind, hz, Result.andThen_ok, run_underlying hu, Array.mapM_eq_mapM_toList, Sem.run_map, hm, Result.andThen_ok, hz3]
      have e2 : (Instr.fill (fun x => (gs.toList.map fun f => (f.offset, C.P.cellsOf f.type)).toArray[x]?) (C.ty t).zero.toArray qs) = some r'.toArray := by
        rw [← e]
        congr 1
        funext x
        simp
      simp only [e2]
      simp
  · cases h

/-! ### Two operands -/

omit hC in
theorem intOp_sound {op : BinOp} {k : IntKind} {x y : Int} {v : Value} (hs : isShift op = false) (h : intOp op k x y = some v) :
    VR ι v v ∧ ∀ w, (binOp op 0 (.int k x) (.int k y)).run C.P w = .ok v w := by
  cases op <;> simp only [intOp, isShift] at h hs
  all_goals try (cases h; done)
  case quo =>
    split at h
    · cases h
    · cases h; exact ⟨.int _ _, fun w => by simp [binOp, Op.intDiv, *]⟩
  case rem =>
    split at h
    · cases h
    · cases h; exact ⟨.int _ _, fun w => by simp [binOp, Op.intDiv, *]⟩
  all_goals
    first
      | (cases h; exact ⟨.int _ _, fun w => by simp [binOp, Op.intArith, Op.intBits]⟩)
      | (cases h; exact ⟨.bool _, fun w => by simp [binOp, Op.intCmp]⟩)
      | cases hs

omit hC in
theorem shiftOp_sound {op : BinOp} {k k' : IntKind} {x y : Int} {v : Value} (h : shiftOp op k x y = some v) :
    VR ι v v ∧ ∀ w, (binOp op 0 (.int k x) (.int k' y)).run C.P w = .ok v w := by
  unfold shiftOp at h
  split at h
  · cases h
  · rename_i hy
    cases op <;> simp only at h
    all_goals try (cases h; done)
    all_goals (cases h; exact ⟨.int _ _, fun w => by simp [binOp, Op.shift, hy]⟩)

omit hC in
theorem strOp_sound {op : BinOp} {x y : ByteArray} {v : Value} (h : strOp op x y = some v) :
    VR ι v v ∧ ∀ w, (binOp op 0 (.string x) (.string y)).run C.P w = .ok v w := by
  unfold strOp at h
  cases op <;> simp only at h
  all_goals try (cases h; done)
  case add =>
    split at h
    · rename_i hs
      cases h
      refine ⟨.string _, fun w => ?_⟩
      simp [binOp, Op.stringOp]
      omega
    · cases h
  all_goals (cases h; exact ⟨.bool _, fun w => by simp [binOp, Op.stringOp]⟩)
end
end Go.Ab
