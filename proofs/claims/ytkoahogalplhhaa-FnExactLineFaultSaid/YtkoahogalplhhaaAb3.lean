/- Part of an own evaluator of Go code on numbered blocks, and of the proof that the machine does what it says; each theorem carries its own conditions. -/
import Derived.Test.YtkoahogalplhhaaAb2
import Derived.Laws.AppendOwn
import Derived.Laws.Entries
import Derived.ChangeKeysEq
set_option linter.unusedVariables false
set_option linter.unusedSimpArgs false
namespace Go.Ab

/-! ## Operations that touch no memory -/

/-- The entry of the table fits the type. -/
def TD.of (d : TD) (x : TypeDesc) : Prop :=
  match d, x with
  | .int k, .int k' => k = k'
  | .bool, .bool => True
  | .str, .string => True
  | .slice e, .slice e' => e = e'
  | .struct fs, .struct gs => gs.toList.map (fun f => (f.offset, f.type)) = fs
  | .ptr, .pointer _ => True
  | .func, .func _ _ _ => True
  | _, _ => False

structure TyFits (P : Program) (t : Nat) (x : TI) : Prop where
  ex : ∃ i d z, P.info? t = some i ∧ P.underlying t = some d ∧ x.d.of d ∧ i.size = x.size ∧ i.bytes = x.bytes ∧ i.zero = some z ∧ z.cells.toList = x.zero
  const : ∀ v ∈ x.zero, constOk v = true
  len : x.zero.length = x.size
  fields : ∀ fs, x.d = .struct fs → ∀ p ∈ fs, (P.info? p.2).isSome = true

def isOther : TD → Bool
  | .other => true
  | _ => false

def aggD : TD → Bool
  | .struct _ => true
  | _ => false

structure CfgOK (C : Cfg) : Prop where
  ty : ∀ t, isOther (C.ty t).d = false → TyFits C.P t (C.ty t)
  mixed : C.P.follows .mixedOrders = true
  eqs : ∀ t fs, t ∈ C.eqs → (C.ty t).d = .struct fs → ∀ xs ys b w, eqF C fs xs ys = some b →
    (∀ op x y, (eqGuard op t x y (.agg xs) (.agg ys)).run C.P w = .ok () w) ∧ (Op.equal t (.agg xs) (.agg ys)).run C.P w = .ok b w

def TR (ι : Emb) (T : Tm) (tmps : Array Value) : Prop := ∀ t v, T.lookup t = some v → ∃ v', tmps[t]? = some v' ∧ VR ι v v'

theorem TR.mono {ι ι' : Emb} (h : ι.le ι') {T : Tm} {tmps : Array Value} (r : TR ι T tmps) : TR ι' T tmps := fun t v ht =>
  let ⟨v', h1, h2⟩ := r t v ht
  ⟨v', h1, h2.mono h⟩

/-- The package variables lie at the head. -/
def GlobOK (C : Cfg) (ι : Emb) : Prop := ∀ g, g < C.G → ∃ l, ι g = some l ∧ l.g = g ∧ l.sh = 0

theorem GlobOK.mono {C : Cfg} {ι ι' : Emb} (h : ι.le ι') (r : GlobOK C ι) : GlobOK C ι' := fun g hg =>
  let ⟨l, h1, h2⟩ := r g hg
  ⟨l, h.loc _ _ h1, h2⟩

def EsOK (ι : Emb) (es : Nat → Option Nat) : Prop := ∀ n l e, ι n = some l → es n = some e → l.es = e

section
variable {C : Cfg} {ι : Emb} {T : Tm} {a : Act}

theorem ev_sound (hT : TR ι T a.tmps) (hG : GlobOK C ι) {x : Operand} {v : Value} (h : ev C T x = some v) : VR ι v (a.eval x) := by
  cases x with
  | tmp t =>
    obtain ⟨v', h1, h2⟩ := hT t v h
    simp only [Act.eval, Array.getD_eq_getD_getElem?, h1, Option.getD_some]
    exact h2
  | const c =>
    simp only [ev] at h
    split at h
    · cases h; exact .const ‹_›
    · cases h
  | global g =>
    simp only [ev] at h
    split at h
    · cases h
      obtain ⟨l, h1, h2, h3⟩ := hG g ‹_›
      have := VR.ptr (ι := ι) g 0 l h1
      rw [h2, h3] at this
      exact this
    · cases h
  | func f =>
    simp only [ev] at h
    cases h
    exact .func _ _ _ _ _ rfl (fun i x y h => by simp at h) rfl (fun i x y h => by simp at h)

theorem evL_sound (hT : TR ι T a.tmps) (hG : GlobOK C ι) : ∀ {xs : List Operand} {vs : List Value}, evL C T xs = some vs → VRL ι vs (xs.map a.eval)
  | [], vs, h => by simp only [evL] at h; cases h; exact .nil
  | x :: xs, vs, h => by
    simp only [evL] at h
    cases hx : ev C T x with
    | none => rw [hx] at h; cases h
    | some v =>
      rw [hx] at h
      cases hxs : evL C T xs with
      | none => rw [hxs] at h; cases h
      | some us =>
        rw [hxs] at h
        cases h
        exact .cons (ev_sound hT hG hx) (evL_sound hT hG hxs)

/-- Numbered values. -/
def VRP (ι : Emb) (ps qs : List (Nat × Value)) : Prop := ps.map (·.1) = qs.map (·.1) ∧ VRL ι (ps.map (·.2)) (qs.map (·.2))

theorem evP_sound (hT : TR ι T a.tmps) (hG : GlobOK C ι) : ∀ {xs : List (Nat × Operand)} {vs : List (Nat × Value)}, evP C T xs = some vs → VRP ι vs (xs.map fun (i, x) => (i, a.eval x))
  | [], vs, h => by simp only [evP] at h; cases h; exact ⟨rfl, .nil⟩
  | (i, x) :: xs, vs, h => by
    simp only [evP] at h
    cases hx : ev C T x with
    | none => rw [hx] at h; cases h
    | some v =>
      rw [hx] at h
      cases hxs : evP C T xs with
      | none => rw [hxs] at h; cases h
      | some us =>
        rw [hxs] at h
        cases h
        have := evP_sound hT hG hxs
        exact ⟨by simpa using this.1, .cons (ev_sound hT hG hx) this.2⟩

/-! ### Single operations -/

variable (hC : CfgOK C)
include hC

theorem ty_fits {t : Nat} {d : TD} (h : (C.ty t).d = d) (hd : isOther d = false) : TyFits C.P t (C.ty t) := hC.ty t (by rw [h]; exact hd)

theorem under_slice {t e : Nat} (h : (C.ty t).d = .slice e) : C.P.underlying t = some (.slice e) := by
  obtain ⟨i, d, z, _, h2, h3, _⟩ := (ty_fits hC h rfl).ex
  rw [h] at h3
  cases d <;> simp [TD.of] at h3
  rw [h2, h3]

theorem under_int {t : Nat} {k : IntKind} (h : (C.ty t).d = .int k) : C.P.underlying t = some (.int k) := by
  obtain ⟨i, d, z, _, h2, h3, _⟩ := (ty_fits hC h rfl).ex
  rw [h] at h3
  cases d <;> simp [TD.of] at h3
  rw [h2, h3]

theorem under_str {t : Nat} (h : (C.ty t).d = .str) : C.P.underlying t = some .string := by
  obtain ⟨i, d, z, _, h2, h3, _⟩ := (ty_fits hC h rfl).ex
  rw [h] at h3
  cases d <;> simp [TD.of] at h3
  rw [h2]

theorem under_bool {t : Nat} (h : (C.ty t).d = .bool) : C.P.underlying t = some .bool := by
  obtain ⟨i, d, z, _, h2, h3, _⟩ := (ty_fits hC h rfl).ex
  rw [h] at h3
  cases d <;> simp [TD.of] at h3
  rw [h2]

theorem under_struct {t : Nat} {fs : List (Nat × Nat)} (h : (C.ty t).d = .struct fs) : ∃ gs : Array Field, C.P.underlying t = some (.struct gs) ∧ gs.toList.map (fun f => (f.offset, f.type)) = fs := by
  obtain ⟨i, d, z, _, h2, h3, _⟩ := (ty_fits hC h rfl).ex
  rw [h] at h3
  cases d <;> simp [TD.of] at h3
  exact ⟨_, h2, h3⟩

theorem under_ptr {t : Nat} (h : (C.ty t).d = .ptr) : ∃ e, C.P.underlying t = some (.pointer e) := by
  obtain ⟨i, d, z, _, h2, h3, _⟩ := (ty_fits hC h rfl).ex
  rw [h] at h3
  cases d <;> simp [TD.of] at h3
  exact ⟨_, h2⟩

theorem under_func {t : Nat} (h : (C.ty t).d = .func) : ∃ a b c, C.P.underlying t = some (.func a b c) := by
  obtain ⟨i, d, z, _, h2, h3, _⟩ := (ty_fits hC h rfl).ex
  rw [h] at h3
  cases d <;> simp [TD.of] at h3
  exact ⟨_, _, _, h2⟩

theorem size_run {t : Nat} {d : TD} (h : (C.ty t).d = d) (hd : isOther d = false) (w : World) : (sizeOf t).run C.P w = .ok (C.ty t).size w := by
  obtain ⟨i, _, z, h1, _, _, h4, _⟩ := (ty_fits hC h hd).ex
  simp [sizeOf, typeInfo, h1, h4]

theorem info_run {t : Nat} {d : TD} (h : (C.ty t).d = d) (hd : isOther d = false) (w : World) : ∃ i z, C.P.info? t = some i ∧ (typeInfo t).run C.P w = .ok i w ∧ i.size = (C.ty t).size ∧ i.bytes = (C.ty t).bytes ∧ i.zero = some z ∧ z.cells.toList = (C.ty t).zero := by
  obtain ⟨i, _, z, h1, _, _, h4, h5, h6, h7⟩ := (ty_fits hC h hd).ex
  exact ⟨i, z, h1, by simp [typeInfo, h1], h4, h5, h6, h7⟩

theorem zero_run {t : Nat} {d : TD} (h : (C.ty t).d = d) (hd : isOther d = false) (w : World) : ∃ z, (zeroValue t).run C.P w = .ok z w ∧ z.cells.toList = (C.ty t).zero := by
  obtain ⟨i, z, _, h1, _, _, h4, h5⟩ := info_run hC h hd w
  exact ⟨z, by simp [zeroValue, h1, h4], h5⟩

theorem isAgg_run {t : Nat} {d : TD} (h : (C.ty t).d = d) (hd : isOther d = false) (w : World) : (isAgg t).run C.P w = .ok (aggD d) w := by
  obtain ⟨i, x, z, _, h2, h3, _⟩ := (ty_fits hC h hd).ex
  rw [h] at h3
  unfold isAgg
  simp only [Sem.run_bind, run_underlying h2, Result.andThen_ok]
  cases d <;> cases x <;> simp [TD.of] at h3 <;> simp [aggD]

omit hC in
theorem cell_load {w : World} {x : Addr} {v : Value} (hc : w.cell? x = some v) : (load x).run C.P w = .ok v w := by simp [hc]

omit hC in
theorem VRL.extract {xs ys : Array Value} (h : VRL ι xs.toList ys.toList) (i j : Nat) : VRL ι (xs.extract i j).toList (ys.extract i j).toList := by
  simp only [Array.toList_extract, List.extract_eq_take_drop]
  exact (h.drop i).take _

omit hC in
theorem VRL.agg' {xs ys : Array Value} (h : VRL ι xs.toList ys.toList) : VR ι (.agg xs) (.agg ys) := by simpa using h.agg

/-- A part of a struct. -/
theorem part_sound {t off : Nat} {cs cs' : Array Value} {v : Value} (hcs : VRL ι cs.toList cs'.toList) (h : part C t cs off = some v) :
    ∃ v', VR ι v v' ∧ ∀ w, (Go.part t cs' off).run C.P w = .ok v' w := by
  have one : ∀ d, (C.ty t).d = d → isOther d = false → (aggD d) = false → cs[off]? = some v → ∃ v', VR ι v v' ∧ ∀ w, (Go.part t cs' off).run C.P w = .ok v' w := by
    intro d hd ho hs hv
    obtain ⟨y, hy, r⟩ := hcs.get (i := off) (by simpa using hv)
    refine ⟨y, r, fun w => ?_⟩
    unfold Go.part
    have hy' : cs'[off]? = some y := by simpa using hy
    simp [isAgg_run hC hd ho w, hs, hy']
  unfold part at h
  cases hd : (C.ty t).d with
  | other => simp [hd] at h
  | struct fs =>
    simp only [hd, Option.some.injEq] at h
    subst h
    refine ⟨.agg (cs'.extract off (off + (C.ty t).size)), (hcs.extract _ _).agg', fun w => ?_⟩
    unfold Go.part
    simp [isAgg_run hC hd rfl w, size_run hC hd rfl w, aggD]
  | int k => exact one _ hd rfl rfl (by simpa [hd] using h)
  | bool => exact one _ hd rfl rfl (by simpa [hd] using h)
  | str => exact one _ hd rfl rfl (by simpa [hd] using h)
  | slice e => exact one _ hd rfl rfl (by simpa [hd] using h)
  | ptr => exact one _ hd rfl rfl (by simpa [hd] using h)
  | func => exact one _ hd rfl rfl (by simpa [hd] using h)
  | tuple => exact one _ hd rfl rfl (by simpa [hd] using h)

theorem field_sound {t f : Nat} {x x' v : Value} (hx : VR ι x x') (h : fieldOf C t x f = some v) : ∃ v', VR ι v v' ∧ ∀ w, (Instr.field t x' f).run C.P w = .ok v' w := by
  unfold fieldOf at h
  split at h
  · rename_i fs cs hd
    cases hx with
    | agg _ cs' h1 h2 =>
    cases hf : fs[f]? with
    | none => rw [hf] at h; cases h
    | some p =>
      obtain ⟨off, ft⟩ := p
      rw [hf] at h
      obtain ⟨v', r, hr⟩ := part_sound hC (VR.arr h1 h2) h
      refine ⟨v', r, fun w => ?_⟩
      obtain ⟨gs, hu, hg⟩ := under_struct hC hd
      have : ∃ g, gs[f]? = some g ∧ g.offset = off ∧ g.type = ft := by
        rw [← hg, List.getElem?_map] at hf
        cases hgf : gs.toList[f]? with
        | none => rw [hgf] at hf; cases hf
        | some g =>
          rw [hgf] at hf
          simp only [Option.map_some, Option.some.injEq, Prod.mk.injEq] at hf
          exact ⟨g, by simpa using hgf, hf⟩
      obtain ⟨g, hg1, rfl, rfl⟩ := this
      unfold Instr.field
      simp [run_underlying hu, hg1, asAgg, hr]
  · cases h

theorem struct_field {t f off ft : Nat} {fs : List (Nat × Nat)} (hd : (C.ty t).d = .struct fs) (hf : fs[f]? = some (off, ft)) :
    ∃ gs g, C.P.underlying t = some (.struct gs) ∧ gs[f]? = some g ∧ g.offset = off ∧ g.type = ft := by
  obtain ⟨gs, hu, hg⟩ := under_struct hC hd
  rw [← hg, List.getElem?_map] at hf
  cases hgf : gs.toList[f]? with
  | none => rw [hgf] at hf; cases hf
  | some g =>
    rw [hgf] at hf
    simp only [Option.map_some, Option.some.injEq, Prod.mk.injEq] at hf
    exact ⟨gs, g, hu, by simpa using hgf, hf⟩

theorem fieldAddr_sound {t f : Nat} {x x' v : Value} (hx : VR ι x x') (h : fieldAddrOf C t x f = some v) : ∃ v', VR ι v v' ∧ ∀ w, (Instr.fieldAt t x' f).run C.P w = .ok v' w := by
  unfold fieldAddrOf at h
  split at h
  · rename_i fs ad hd
    cases hx with
    | ptr n o l hl =>
    cases hf : fs[f]? with
    | none => rw [hf] at h; cases h
    | some p =>
      obtain ⟨off, ft⟩ := p
      rw [hf] at h
      obtain ⟨gs, g, hu, hg1, rfl, rfl⟩ := struct_field hC hd hf
      have key : ∀ d, (C.ty g.type).d = d → isOther d = false → (if (C.ty g.type).size = 0 then none else some (Value.pointer (some ⟨n, o + g.offset, none⟩))) = some v →
          ∃ v', VR ι v v' ∧ ∀ w, (Instr.fieldAt t (.pointer (some ⟨l.g, l.sh + o, none⟩)) f).run C.P w = .ok v' w := by
        intro d hd' ho h
        split at h
        · cases h
        · rename_i hz
          cases h
          refine ⟨_, .ptr n (o + g.offset) l hl, fun w => ?_⟩
          unfold Instr.fieldAt
          simp [run_underlying hu, hg1, Instr.sureAddr, fieldPlace, size_run hC hd' ho w, hz, Addr.add_lit, Nat.add_assoc]
      cases hd' : (C.ty g.type).d with
      | other => simp [hd'] at h
      | _ => exact key _ hd' rfl (by simpa [hd'] using h)
  · rename_i fs cs hd
    cases hx with
    | rop _ g0 off0 c hz hs hr hfl =>
    cases hf : fs[f]? with
    | none => rw [hf] at h; cases h
    | some p =>
      obtain ⟨off, ft⟩ := p
      rw [hf] at h
      obtain ⟨gs, g, hu, hg1, rfl, rfl⟩ := struct_field hC hd hf
      have key : ∀ d, (C.ty g.type).d = d → isOther d = false → (if (C.ty g.type).size = 0 then none else some (roP (cs.toList.drop g.offset))) = some v →
          ∃ v', VR ι v v' ∧ ∀ w, (Instr.fieldAt t (.pointer (some ⟨g0, off0, none⟩)) f).run C.P w = .ok v' w := by
        intro d hd' ho h
        split at h
        · cases h
        · rename_i hz'
          cases h
          obtain ⟨q1, q2, q3⟩ := ro_part hs hr g.offset (drop_get (cs := cs) g.offset) hfl
          refine ⟨_, .rop _ g0 (off0 + g.offset) c hz q1 q2 q3, fun w => ?_⟩
          unfold Instr.fieldAt
          simp [run_underlying hu, hg1, Instr.sureAddr, fieldPlace, size_run hC hd' ho w, hz', Addr.add_lit]
      cases hd' : (C.ty g.type).d with
      | other => simp [hd'] at h
      | _ => exact key _ hd' rfl (by simpa [hd'] using h)
  · cases h

theorem indexAddr_sound {t : Nat} {x x' i i' v : Value} (hx : VR ι x x') (hi : VR ι i i') (h : indexAddrOf C t x i = some v) : ∃ v', VR ι v v' ∧ ∀ w, (Instr.indexAt t x' i').run C.P w = .ok v' w := by
  unfold indexAddrOf at h
  split at h
  · rename_i e ad len cap k j hd
    cases hi
    cases hx with
    | sl n o _ acap l off ccap hl h1 h2 h3 h4 =>
    have key : ∀ d, (C.ty e).d = d → isOther d = false → (if 0 ≤ j ∧ j < len then some (Value.pointer (some ⟨n, o + j.toNat * (C.ty e).size, none⟩)) else none) = some v →
        ∃ v', VR ι v v' ∧ ∀ w, (Instr.indexAt t (.slice (some ⟨l.g, off, none⟩) len ccap) (.int k j)).run C.P w = .ok v' w := by
      intro d hd' ho h
      split at h
      · rename_i hj
        cases h
        have hoff : off = l.sh + o := h4.resolve_left (by omega)
        subst hoff
        refine ⟨_, .ptr n (o + j.toNat * (C.ty e).size) l hl, fun w => ?_⟩
        unfold Instr.indexAt
        simp [asIntOf, run_underlying (under_slice hC hd), size_run hC hd' ho w, hj.1, hj.2, Addr.add_lit, Nat.add_assoc]
      · cases h
    cases hd' : (C.ty e).d with
    | other => simp [hd'] at h
    | _ => exact key _ hd' rfl (by simpa [hd'] using h)
  · rename_i e len cs k j hd
    cases hi
    have key : ∀ d, (C.ty e).d = d → isOther d = false → (if 0 ≤ j ∧ j < len then some (roP ((cs.toList.drop (j.toNat * (C.ty e).size)).take (C.ty e).size)) else none) = some v →
        ∃ v', VR ι v v' ∧ ∀ w, (Instr.indexAt t x' (.int k j)).run C.P w = .ok v' w := by
      intro d hd' ho h
      split at h
      · rename_i hj
        cases h
        cases hx with
        | ro _ _ g0 off0 ccap c hz hs hl hr hfl =>
          obtain ⟨q1, q2, q3⟩ := ro_part hs hr _ (take_drop_get (cs := cs) (j.toNat * (C.ty e).size) (C.ty e).size) hfl
          refine ⟨_, .rop _ g0 (off0 + j.toNat * (C.ty e).size) c hz q1 q2 q3, fun w => ?_⟩
          unfold Instr.indexAt
          simp [asIntOf, run_underlying (under_slice hC hd), size_run hC hd' ho w, hj.1, hj.2, Addr.add_lit]
        | ro0 a ccap ha => omega
      · cases h
    cases hd' : (C.ty e).d with
    | other => simp [hd'] at h
    | _ => exact key _ hd' rfl (by simpa [hd'] using h)
  · cases h

theorem index_sound {t : Nat} {x x' i i' v : Value} (hx : VR ι x x') (hi : VR ι i i') (h : indexOf C t x i = some v) : ∃ v', VR ι v v' ∧ ∀ w, (Instr.index t x' i').run C.P w = .ok v' w := by
  unfold indexOf at h
  split at h
  · rename_i s k j hd
    cases hi
    cases hx
    split at h
    · rename_i hj
      cases hb : s[j.toNat]? with
      | none => rw [hb] at h; cases h
      | some b =>
        rw [hb] at h
        cases h
        refine ⟨_, .int _ _, fun w => ?_⟩
        unfold Instr.index
        simp [asIntOf, run_underlying (under_str hC hd), hj, hb]
    · cases h
  · cases h

omit hC in
theorem bound_sound {v : Option (Option Value)} {dflt l : Nat} (h : boundOf v dflt = some l) :
    (v = none ∧ l = dflt) ∨ ∃ k i, v = some (some (.int k i)) ∧ 0 ≤ i ∧ l = i.toNat := by
  unfold boundOf at h
  split at h
  · cases h; exact .inl ⟨rfl, rfl⟩
  · split at h
    · cases h; exact .inr ⟨_, _, rfl, ‹_›, rfl⟩
    · cases h
  · cases h

omit hC in
theorem sliceBound_run {x : Value} {y : Nat} {code : BoundsCode} {k : IntKind} {i : Int} (hx : x = .int k i) (h0 : 0 ≤ i) (h1 : i.toNat ≤ y) (w : World) :
    (Instr.sliceBound x y code).run C.P w = .ok i.toNat w := by
  subst hx
  unfold Instr.sliceBound
  have : i ≤ (y : Int) := by omega
  simp [asIntOf, h0, this]

/-- How the bounds that are asked stand in the machine. -/
def BoundIs (v : Option (Option Value)) (v' : Option Value) : Prop := (v = none ∧ v' = none) ∨ ∃ k i, v = some (some (.int k i)) ∧ v' = some (.int k i)

omit hC in
theorem sliceBounds_run {isS : Bool} {len cap l h : Nat} {lo hi : Option (Option Value)} {lo' hi' : Option Value} (a1 : BoundIs lo lo') (a2 : BoundIs hi hi')
    (b1 : boundOf lo 0 = some l) (b2 : boundOf hi len = some h) (c1 : l ≤ h) (c2 : h ≤ cap) (w : World) :
    (Instr.sliceBounds isS len cap lo' hi' none).run C.P w = .ok (l, h, cap) w := by
  unfold Instr.sliceBounds
  rcases a2 with ⟨rfl, rfl⟩ | ⟨k, i, rfl, rfl⟩
  · rcases bound_sound b2 with ⟨_, rfl⟩ | ⟨_, _, e, _⟩
    · rcases a1 with ⟨rfl, rfl⟩ | ⟨k', j, rfl, rfl⟩
      · rcases bound_sound b1 with ⟨_, rfl⟩ | ⟨_, _, e, _⟩
        · simp
        · cases e
      · rcases bound_sound b1 with ⟨e, _⟩ | ⟨_, _, e, h0, rfl⟩
        · cases e
        · simp only [Option.some.injEq, Value.int.injEq] at e
          obtain ⟨rfl, rfl⟩ := e
          simp [sliceBound_run (C := C) rfl h0 c1 w]
    · cases e
  · rcases bound_sound b2 with ⟨e, _⟩ | ⟨_, _, e, h0', rfl⟩
    · cases e
    · simp only [Option.some.injEq, Value.int.injEq] at e
      obtain ⟨rfl, rfl⟩ := e
      rcases a1 with ⟨rfl, rfl⟩ | ⟨k', j, rfl, rfl⟩
      · rcases bound_sound b1 with ⟨_, rfl⟩ | ⟨_, _, e, _⟩
        · simp [sliceBound_run (C := C) rfl h0' c2 w]
        · cases e
      · rcases bound_sound b1 with ⟨e, _⟩ | ⟨_, _, e, h0, rfl⟩
        · cases e
        · simp only [Option.some.injEq, Value.int.injEq] at e
          obtain ⟨rfl, rfl⟩ := e
          simp [sliceBound_run (C := C) rfl h0' c2 w, sliceBound_run (C := C) rfl h0 c1 w]

theorem slice_sound {es : Nat → Option Nat} (hes : EsOK ι es) {t : Nat} {x x' v : Value} {lo hi : Option (Option Value)} {lo' hi' : Option Value} (hx : VR ι x x') (a1 : BoundIs lo lo') (a2 : BoundIs hi hi')
    (h : sliceOf C es t x lo hi = some v) : ∃ v', VR ι v v' ∧ ∀ w, (Instr.sliceAt t x' lo' hi' none).run C.P w = .ok v' w := by
  unfold sliceOf at h
  split at h
  · rename_i s hd
    cases hx
    split at h
    · rename_i l k b1 b2
      split at h
      · rename_i c
        cases h
        refine ⟨_, .string _, fun w => ?_⟩
        unfold Instr.sliceAt Instr.slice
        simp [run_underlying (under_str hC hd), sliceBounds_run (C := C) a1 a2 b1 b2 c.1 c.2 w]
      · cases h
    · cases h
  · rename_i e ad len cap hd
    have key : ∀ d, (C.ty e).d = d → isOther d = false → sliceIn es (C.ty e).size ad len cap lo hi = some v → ∃ v', VR ι v v' ∧ ∀ w, (Instr.sliceAt t x' lo' hi' none).run C.P w = .ok v' w := by
      intro d hd' ho q
      clear h
      unfold sliceIn at q
      split at q
      · rename_i l k b1 b2
        split at q
        · rename_i c
          cases hx with
          | slNil a ha =>
            cases q
            have hk : k = 0 := by omega
            have hl : l = 0 := by omega
            subst hk; subst hl
            refine ⟨_, .slNil a ha, fun w => ?_⟩
            unfold Instr.sliceAt Instr.slice
            simp [run_underlying (under_slice hC hd), sliceBounds_run (C := C) a1 a2 b1 b2 c.1 c.2 w, size_run hC hd' ho w]
          | sl n o _ acap l0 off ccap hl h1 h2 h3 h4 =>
            simp only at q
            split at q
            · rename_i he
              cases q
              have hsz : l0.es = (C.ty e).size := hes n l0 _ hl he
              have hrun : ∀ w, (Instr.sliceAt t (.slice (some ⟨l0.g, off, none⟩) len ccap) lo' hi' none).run C.P w = .ok (.slice (some (if ccap = l then ⟨l0.g, off, none⟩ else ⟨l0.g, off + l * (C.ty e).size, none⟩)) (k - l) (ccap - l)) w := by
                intro w
                unfold Instr.sliceAt Instr.slice
                simp [run_underlying (under_slice hC hd), sliceBounds_run (C := C) a1 a2 b1 b2 c.1 (Nat.le_trans c.2 h2) w, size_run hC hd' ho w, Addr.add_lit]
                split <;> simp_all
              refine ⟨_, ?_, hrun⟩
              by_cases hcl : cap = l
              · subst hcl
                have hk : k - cap = 0 := by omega
                rw [if_pos rfl, hk, Nat.sub_self]
                by_cases hcc : ccap = cap
                · subst hcc
                  rw [if_pos rfl, Nat.sub_self]
                  exact .sl n o 0 0 l0 off 0 hl (Nat.le_refl _) (Nat.le_refl _) (by have := Nat.le_trans (Nat.le_add_right off (ccap * l0.es)) h3; simpa using this) (.inl rfl)
                · rw [if_neg hcc]
                  refine .sl n o 0 0 l0 _ _ hl (Nat.le_refl _) (Nat.zero_le _) ?_ (.inl rfl)
                  rw [← hsz]
                  have : off + cap * l0.es + (ccap - cap) * l0.es = off + ccap * l0.es := by
                    rw [Nat.add_assoc, ← Nat.add_mul, Nat.add_sub_of_le h2]
                  omega
              · have hcc : ccap ≠ l := by omega
                rw [if_neg hcl, if_neg hcc]
                have hoff : off = l0.sh + o := h4.resolve_left (by omega)
                refine .sl n _ _ _ l0 _ _ hl (by omega) (by omega) ?_ (.inr (by omega))
                rw [← hsz]
                have : off + l * l0.es + (ccap - l) * l0.es = off + ccap * l0.es := by
                  rw [Nat.add_assoc, ← Nat.add_mul, Nat.add_sub_of_le (by omega)]
                omega
            · cases q
        · cases q
      · cases q
    cases hd' : (C.ty e).d with
    | other => simp [hd'] at h
    | _ => exact key _ hd' rfl (by simpa [hd'] using h)
  · rename_i e len cs hd
    have key : ∀ d, (C.ty e).d = d → isOther d = false → roPart (C.ty e).size len cs lo hi = some v → ∃ v', VR ι v v' ∧ ∀ w, (Instr.sliceAt t x' lo' hi' none).run C.P w = .ok v' w := by
      intro d hd' ho q
      clear h
      unfold roPart at q
      split at q
      · rename_i l k b1 b2
        split at q
        · rename_i c
          cases q
          have hrun : ∀ a ccap, len ≤ ccap → ∀ w, (Instr.sliceAt t (.slice a len ccap) lo' hi' none).run C.P w = .ok (.slice (if ccap = l then a else a.map (·.add (l * (C.ty e).size))) (k - l) (ccap - l)) w := by
            intro a ccap hcc w
            unfold Instr.sliceAt Instr.slice
            simp [run_underlying (under_slice hC hd), sliceBounds_run (C := C) a1 a2 b1 b2 c.1 (Nat.le_trans c.2 hcc) w, size_run hC hd' ho w]
          have empty : ∀ a ccap, plainA a → k - l = 0 → VR ι (roS (k - l) ((cs.toList.drop (l * (C.ty e).size)).take ((k - l) * (C.ty e).size))) (.slice (if ccap = l then a else a.map (·.add (l * (C.ty e).size))) (k - l) (ccap - l)) := by
            intro a ccap ha h0
            rw [h0]
            simp only [roS, Nat.zero_mul, List.take_zero]
            refine .ro0 _ _ ?_
            split
            · exact ha
            · exact ha.add _
          cases hx with
          | ro _ _ g0 off0 ccap c0 hz hs hl hr hfl =>
            refine ⟨_, ?_, hrun _ ccap hl⟩
            rcases Nat.eq_zero_or_pos (k - l) with h0 | h0
            · exact empty _ ccap (plainA.some _ _) h0
            · obtain ⟨q1, q2, q3⟩ := ro_part hs hr _ (take_drop_get (cs := cs) (l * (C.ty e).size) ((k - l) * (C.ty e).size)) hfl
              have hne : ccap ≠ l := by omega
              rw [if_neg hne]
              simp only [Option.map_some, Addr.add_lit]
              exact .ro _ _ g0 _ _ c0 hz q1 (by omega) q2 q3
          | ro0 a ccap ha => exact ⟨_, empty a ccap ha (by omega), hrun a ccap (Nat.zero_le _)⟩
        · cases q
      · cases q
    cases hd' : (C.ty e).d with
    | other => simp [hd'] at h
    | _ => exact key _ hd' rfl (by simpa [hd'] using h)
  · cases h

/-- A slice cut down to nothing. -/
theorem cut_sound {t : Nat} {x x' v : Value} {lo hi mx : Option (Option Value)} {lo' hi' mx' : Option Value} (hx : VR ι x x') (a1 : BoundIs lo lo') (a2 : BoundIs hi hi') (a3 : BoundIs mx mx') (hh : hi ≠ none) (hm : mx ≠ none)
    (h : cutOf C t x lo hi mx = some v) : ∃ v', VR ι v v' ∧ ∀ w, (Instr.sliceAt t x' lo' hi' mx').run C.P w = .ok v' w := by
  unfold cutOf at h
  split at h
  · rename_i e hd b1 b2 b3
    have hbounds : ∀ len cap w, (Instr.sliceBounds true len cap lo' hi' mx').run C.P w = .ok (0, 0, 0) w := by
      intro len cap w
      have zero : ∀ {v : Option (Option Value)} {v' : Option Value} {y : Nat} {code : BoundsCode}, v ≠ none → BoundIs v v' → boundOf v 0 = some 0 → ∃ u, v' = some u ∧ ∀ y code, (Instr.sliceBound u y code).run C.P w = .ok 0 w := by
        intro v v' _ _ hn hb h0
        rcases hb with ⟨rfl, _⟩ | ⟨k, i, rfl, rfl⟩
        · exact absurd rfl hn
        · rcases bound_sound h0 with ⟨e, _⟩ | ⟨_, _, e, hi0, he⟩
          · cases e
          · simp only [Option.some.injEq, Value.int.injEq] at e
            obtain ⟨rfl, rfl⟩ := e
            exact ⟨_, rfl, fun y code => by rw [sliceBound_run (C := C) rfl hi0 (by omega) w, ← he]⟩
      obtain ⟨u2, rfl, r2⟩ := zero (y := 0) (code := .slice3B) hh a2 b2
      obtain ⟨u3, rfl, r3⟩ := zero (y := 0) (code := .slice3B) hm a3 b3
      unfold Instr.sliceBounds
      by_cases hl : lo = none
      · rcases a1 with ⟨_, rfl⟩ | ⟨_, _, e, _⟩
        · simp [r2, r3]
        · rw [hl] at e; cases e
      · obtain ⟨u1, rfl, r1⟩ := zero (y := 0) (code := .slice3B) hl a1 b1
        simp [r1, r2, r3]
    have hrun : ∀ d, (C.ty e).d = d → isOther d = false → ∀ a len cap w, ∃ a', (Instr.sliceAt t (.slice a len cap) lo' hi' mx').run C.P w = .ok (.slice a' 0 0) w ∧ a' = a := by
      intro d hd' ho a len cap w
      refine ⟨a, ?_, rfl⟩
      unfold Instr.sliceAt Instr.slice
      simp [run_underlying (under_slice hC hd), hbounds, size_run hC hd' ho w]
    have fin : ∀ d, (C.ty e).d = d → isOther d = false → ∀ a len cap, x' = .slice a len cap → plainA a → ∃ v', VR ι (.slice none 0 0) v' ∧ ∀ w, (Instr.sliceAt t x' lo' hi' mx').run C.P w = .ok v' w := by
      intro d hd' ho a len cap hx' ha
      refine ⟨.slice a 0 0, .slNil a ha, fun w => ?_⟩
      obtain ⟨_, q, rfl⟩ := hrun d hd' ho a len cap w
      rw [hx']; exact q
    split at h
    · cases h
    · rename_i hno
      cases h
      have hoth : isOther (C.ty e).d = false := by cases hd' : (C.ty e).d <;> first | rfl | exact absurd hd' hno
      cases hx with
      | slNil a ha => exact fin _ rfl hoth a _ _ rfl ha
      | sl n o _ acap l off ccap _ _ _ _ _ => exact fin _ rfl hoth _ _ _ rfl (plainA.some _ _)
    · rename_i hno
      cases h
      have hoth : isOther (C.ty e).d = false := by cases hd' : (C.ty e).d <;> first | rfl | exact absurd hd' hno
      cases hx with
      | ro _ _ g0 off0 ccap c0 hz hs hl hr hfl => exact fin _ rfl hoth _ _ _ rfl (plainA.some _ _)
      | ro0 a ccap ha => exact fin _ rfl hoth a _ _ rfl ha
    · cases h
  · cases h
end
end Go.Ab
