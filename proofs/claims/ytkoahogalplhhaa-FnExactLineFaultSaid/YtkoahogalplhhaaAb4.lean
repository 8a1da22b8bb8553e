/- Part of an own evaluator of Go code on numbered blocks, and of the proof that the machine does what it says; each theorem carries its own conditions. -/
import Derived.Test.YtkoahogalplhhaaAb3c
import Derived.IntWalk
set_option linter.unusedVariables false
set_option linter.unusedSimpArgs false
namespace Go.Ab

section
variable {C : Cfg} {B : Nat} {ι : Emb} {T : Tm} {a : Act} {m : Mem} {w : World}

/-! ## Reading -/

theorem rd_sound (R : Rep B ι m w) {n o k : Nat} {l : Loc} {cs : List Value} (hl : ι n = some l) (h : rd m n o k = some cs) :
    cs.length = k ∧ cs.all flat = true ∧ ∃ cs', VRL ι cs cs' ∧ ∀ (j : Nat) v, cs'[j]? = some v → w.cell? ⟨l.g, l.sh + o + j, none⟩ = some v := by
  unfold rd at h
  split at h
  · rename_i hk
    cases h
    exact ⟨by simp [hk], rfl, [], .nil, fun j v hj => by simp at hj⟩
  · split at h
    · rename_i b hb
      split at h
      · rename_i hc
        cases h
        have M := R.cells n l b hl hb hc.1
        obtain ⟨c, e, fz, m1, m2, m3, m4, m5⟩ := M.ex
        have hlen : ((b.cells.drop o).take k).length = k := by simp; omega
        refine ⟨hlen, List.all_eq_true.2 fun x hx => List.all_eq_true.1 M.flat x (List.mem_of_mem_drop (List.mem_of_mem_take hx)), ((c.toList.drop (l.sh + o)).take k), ?_, ?_⟩
        · refine ⟨by rw [hlen]; simp; omega, fun i x y hx hy => ?_⟩
          have hi : i < k := by have := (List.getElem?_eq_some_iff.1 hx).1; omega
          rw [List.getElem?_take, if_pos hi, List.getElem?_drop] at hx hy
          obtain ⟨y', h1, h2⟩ := m4 (o + i) x hx
          rw [show l.sh + o + i = l.sh + (o + i) by omega, Array.getElem?_toList, h1] at hy
          cases hy
          exact h2
        · intro j v hj
          rw [List.getElem?_take] at hj
          split at hj
          · rw [List.getElem?_drop, Array.getElem?_toList] at hj
            simp [World.cell?, m1, hj]
          · cases hj
      · cases h
    · cases h

theorem one_some {x : Option (List Value)} {v : Value} (h : one x = some v) : x = some [v] := by
  unfold one at h
  split at h
  · cases h; rfl
  · cases h

theorem loadCells_run {g o k : Nat} {cs : List Value} (hk : cs.length = k) (h : ∀ (j : Nat) v, cs[j]? = some v → w.cell? ⟨g, o + j, none⟩ = some v) :
    (loadCells ⟨g, o, none⟩ k).run C.P w = .ok cs.toArray w := by
  rw [← hk]
  exact run_loadCells_list w _ cs fun j v hj => by rw [Addr.add_lit]; exact h j v hj

/-- Frozen cells are read. -/
theorem fz_cells (R : Rep B ι m w) {cs c : Array Value} {g off : Nat} (hz : ι.fz g = some c) (hs : cs.size = 0 ∨ off + cs.size ≤ c.size) (hr : ∀ (i : Nat) x y, cs[i]? = some x → c[off + i]? = some y → VR ι.bare x y) (k : Nat) (hk : k ≤ cs.size) :
    ∃ cs', VRL ι (cs.toList.take k) cs' ∧ cs'.length = k ∧ ∀ (j : Nat) v, cs'[j]? = some v → w.cell? ⟨g, off + j, none⟩ = some v := by
  obtain ⟨e, z, hh⟩ := R.frozen g c hz
  refine ⟨(c.toList.drop off).take k, ⟨by simp; omega, fun i x y hx hy => ?_⟩, by simp; omega, fun j v hj => ?_⟩
  · rw [List.getElem?_take] at hx hy
    split at hx
    · rename_i hi
      rw [if_pos hi, List.getElem?_drop] at hy
      exact (hr i x y (by simpa using hx) (by simpa using hy)).mono (Emb.bare_le ι)
    · cases hx
  · rw [List.getElem?_take] at hj
    split at hj
    · rw [List.getElem?_drop, Array.getElem?_toList] at hj
      simp [World.cell?, hh, hj]
    · cases hj

variable (hC : CfgOK C)
include hC

/-- A variable is read. -/
theorem loadVar_sound (R : Rep B ι m w) {t n o : Nat} {l : Loc} (hl : ι n = some l) :
    (∀ fs cs, (C.ty t).d = .struct fs → rd m n o (C.ty t).size = some cs → ∃ v', VR ι (.agg cs.toArray) v' ∧ (loadVar t ⟨l.g, l.sh + o, none⟩).run C.P w = .ok v' w) ∧
    (∀ d v, (C.ty t).d = d → isOther d = false → (aggD d) = false → rd m n o 1 = some [v] → ∃ v', VR ι v v' ∧ (loadVar t ⟨l.g, l.sh + o, none⟩).run C.P w = .ok v' w) := by
  constructor
  · intro fs cs hd h
    obtain ⟨h1, _, cs', h2, h3⟩ := rd_sound R hl h
    refine ⟨.agg cs'.toArray, h2.agg, ?_⟩
    unfold loadVar
    have hrun := loadCells_run (C := C) (g := l.g) (o := l.sh + o) (k := (C.ty t).size) (cs := cs') (w := w) (by rw [← h2.1]; exact h1) h3
    simp [isAgg_run hC hd rfl w, size_run hC hd rfl w, hrun, aggD]
  · intro d v hd ho hs h
    obtain ⟨h1, _, cs', h2, h3⟩ := rd_sound R hl h
    obtain ⟨y, ys, rfl, r, _⟩ := h2.cases_cons
    refine ⟨y, r, ?_⟩
    have hcell := h3 0 y (by simp)
    unfold loadVar
    simp only [Nat.add_zero] at hcell
    simp [isAgg_run hC hd ho w, hs, hcell]

theorem rvLoad_sound (R : Rep B ι m w) (hT : TR ι T a.tmps) (hG : GlobOK C ι) {o : Oper} {t : Nat} {x : Operand} (ho : o.op = .load t x) {n : Option Nat} {v : Value} (h : rv C m T o = some (n, v)) :
    ∃ v', VR ι v v' ∧ (execOp a.eval o).run C.P w = .ok (.value v') w := by
  unfold rv at h
  simp only [ho] at h
  split at h
  · rename_i p hp
    have hx := ev_sound hT hG hp
    generalize hxe : a.eval x = x' at hx
    cases hx with
    | ptr k off l hl =>
    obtain ⟨s1, s2⟩ := loadVar_sound hC (t := t) (o := off) R hl
    have fin : ∀ v', (loadVar t ⟨l.g, l.sh + off, none⟩).run C.P w = .ok v' w → (execOp a.eval o).run C.P w = .ok (.value v') w := by
      intro v' hv'
      simp [execOp, ho, hxe, Instr.loadAt, Instr.sureAddr, hv']
    have key : ∀ d, (C.ty t).d = d → isOther d = false → aggD d = false → ((one (rd m k off 1)).map fun v => (some k, v)) = some (n, v) → ∃ v', VR ι v v' ∧ (execOp a.eval o).run C.P w = .ok (.value v') w := by
      intro d hd h1 h2 hr
      cases hu : one (rd m k off 1) with
      | none => rw [hu] at hr; cases hr
      | some u =>
        rw [hu] at hr
        cases hr
        obtain ⟨v', r, hv'⟩ := s2 _ _ hd h1 h2 (one_some hu)
        exact ⟨v', r, fin v' hv'⟩
    cases hd : (C.ty t).d with
    | other => simp [hd] at h
    | struct fs =>
      simp only [hd] at h
      split at h
      · rename_i cs hr
        cases h
        obtain ⟨v', r, hv'⟩ := s1 fs cs hd hr
        exact ⟨v', r, fin v' hv'⟩
      · cases h
    | _ => exact key _ hd rfl rfl (by simpa [hd] using h)
  · rename_i cs hp
    have hx := ev_sound hT hG hp
    generalize hxe : a.eval x = x' at hx
    cases hx with
    | rop _ g0 off0 c hz hs hr hfl =>
    have fin : ∀ v', (loadVar t ⟨g0, off0, none⟩).run C.P w = .ok v' w → (execOp a.eval o).run C.P w = .ok (.value v') w := by
      intro v' hv'
      simp [execOp, ho, hxe, Instr.loadAt, Instr.sureAddr, hv']
    have key : ∀ d, (C.ty t).d = d → isOther d = false → aggD d = false → ((cs[0]?).map fun v => ((none : Option Nat), v)) = some (n, v) → ∃ v', VR ι v v' ∧ (execOp a.eval o).run C.P w = .ok (.value v') w := by
      intro d hd h1 h2 hr'
      cases hu : cs[0]? with
      | none => rw [hu] at hr'; cases hr'
      | some u =>
        rw [hu] at hr'
        cases hr'
        have h0 := (Array.getElem?_eq_some_iff.1 hu).1
        obtain ⟨cs', r, hl, hc⟩ := fz_cells R hz hs hr 1 (by omega)
        obtain ⟨y, hy, ry⟩ := r.get (i := 0) (x := v) (by rw [List.getElem?_take, if_pos (by omega)]; simpa using hu)
        refine ⟨y, ry, fin y ?_⟩
        have hcell := hc 0 y hy
        unfold loadVar
        simp only [Nat.add_zero] at hcell
        simp [isAgg_run hC hd h1 w, h2, hcell]
    cases hd : (C.ty t).d with
    | other => simp [hd] at h
    | struct fs =>
      simp only [hd] at h
      split at h
      · rename_i hsz
        cases h
        obtain ⟨cs', r, hl, hc⟩ := fz_cells R hz hs hr (C.ty t).size hsz
        have e : cs.extract 0 (C.ty t).size = (cs.toList.take (C.ty t).size).toArray := by apply Array.ext'; simp
        refine ⟨.agg cs'.toArray, by rw [e]; exact r.agg, fin _ ?_⟩
        unfold loadVar
        have hrun := loadCells_run (C := C) (g := g0) (o := off0) (k := (C.ty t).size) (cs := cs') (w := w) hl hc
        simp [isAgg_run hC hd rfl w, size_run hC hd rfl w, hrun, aggD]
      · cases h
    | _ => exact key _ hd rfl rfl (by simpa [hd] using h)
  · cases h

omit hC in
theorem bytes_of_ground {cs cs' : List Value} (h : VRL ι cs cs') {l : List UInt8} (hb : bytesOf cs = some l) : cs' = cs := by
  induction cs generalizing cs' l with
  | nil => exact h.cases_nil
  | cons x xs ih =>
    obtain ⟨y, ys, rfl, hx, ht⟩ := h.cases_cons
    cases x with
    | int k n =>
      cases hx
      cases k <;> simp only [bytesOf] at hb <;> try (cases hb; done)
      cases hb' : bytesOf xs with
      | none => rw [hb'] at hb; cases hb
      | some l' => rw [ih ht hb']
    | _ => simp [bytesOf] at hb

omit hC in
theorem bytesLoop_run (F : Value → ByteArray → Sem (ForInStep ByteArray)) (hF : ∀ n r, F (.int .u8 n) r = pure (ForInStep.yield (r.push (UInt8.ofNat n.toNat)))) (cs : List Value) : ∀ (s : ByteArray) (l : List UInt8), bytesOf cs = some l →
    (forIn (m := Sem) cs s F).run C.P w = .ok ⟨s.data ++ l.toArray⟩ w := by
  induction cs with
  | nil => intro s l h; simp only [bytesOf] at h; cases h; simp
  | cons x xs ih =>
    intro s l h
    cases x with
    | int k n =>
      cases k <;> simp only [bytesOf] at h <;> try (cases h; done)
      cases hb : bytesOf xs with
      | none => rw [hb] at h; cases h
      | some l' =>
        rw [hb] at h
        cases h
        simp only [List.forIn_cons, Sem.run_bind, hF, Sem.run_pure, Result.andThen_ok]
        have := ih (s.push (UInt8.ofNat n.toNat)) l' hb
        simp only [this]
        congr 2
        simp [ByteArray.push]
    | _ => simp [bytesOf] at h
end
end Go.Ab

namespace Go.Ab
section
variable {C : Cfg} {B : Nat} {ι : Emb} {T : Tm} {a : Act} {m : Mem} {w : World}

/-! ## Making blocks -/

theorem flat_rep_length (z : List Value) (c : Nat) : ((List.replicate c z).flatten).length = c * z.length := by
  induction c with
  | zero => simp
  | succ c ih => rw [List.replicate_succ, List.flatten_cons, List.length_append, ih, Nat.succ_mul]; omega

theorem flat_rep_get (z : List Value) (c i : Nat) (hi : i < c * z.length) : ((List.replicate c z).flatten)[i]? = z[i % z.length]? := by
  induction c generalizing i with
  | zero => simp at hi
  | succ c ih =>
    rw [List.replicate_succ, List.flatten_cons]
    by_cases h : i < z.length
    · rw [List.getElem?_append_left h, Nat.mod_eq_of_lt h]
    · rw [List.getElem?_append_right (by omega), ih (i - z.length) (by rw [Nat.succ_mul] at hi; omega)]
      congr 1
      rw [Nat.mod_eq_sub_mod (by omega : i ≥ z.length)]

theorem range_rep (z : Array Value) (c : Nat) : ((Array.range (c * z.size)).map (fun i => z[i % z.size]!)) = ((List.replicate c z.toList).flatten).toArray := by
  apply Array.ext'
  apply List.ext_getElem?
  intro i
  by_cases h : i < c * z.size
  · have hz : 0 < z.size := by
      rcases Nat.eq_zero_or_pos z.size with e | e
      · rw [e] at h; simp at h
      · exact e
    have hm : i % z.size < z.size := Nat.mod_lt _ hz
    have := flat_rep_get z.toList c i (by simpa using h)
    simp only [Array.length_toList] at this
    rw [List.toList_toArray, this]
    simp [h, hm]
  · have := flat_rep_length z.toList c
    simp only [Array.length_toList] at this
    rw [List.getElem?_eq_none (by simp; omega), List.toList_toArray, List.getElem?_eq_none (by omega)]

theorem VRL.flat_rep {z : List Value} (h : ∀ v ∈ z, constOk v = true) (c : Nat) : VRL ι (List.replicate c z).flatten (List.replicate c z).flatten :=
  .consts fun x hx => by
    rw [List.mem_flatten] at hx
    obtain ⟨l, hl, hx⟩ := hx
    rw [List.mem_replicate] at hl
    exact h x (hl.2 ▸ hx)

theorem const_flat {l : List Value} (h : ∀ v ∈ l, constOk v = true) : l.all flat = true := by
  rw [List.all_eq_true]
  intro v hv
  have := h v hv
  revert this
  cases v <;> simp [constOk, flat]

theorem rep_flat {z : List Value} (h : z.all flat = true) (c : Nat) : (List.replicate c z).flatten.all flat = true := by
  rw [List.all_eq_true] at h ⊢
  intro y hy
  rw [List.mem_flatten] at hy
  obtain ⟨l', hl', hy⟩ := hy
  rw [List.mem_replicate] at hl'
  exact h y (hl'.2 ▸ hy)

theorem fill_flat {place : Nat → Option (Nat × Nat)} : ∀ {ps : List (Nat × Value)} {cs r : List Value}, cs.all flat = true → ps.all (fun p => p.2.cells.toList.all flat) = true → fillL place cs ps = some r → r.all flat = true
  | [], cs, r, hc, _, h => by simp only [fillL] at h; cases h; exact hc
  | (i, v) :: ps, cs, r, hc, hp, h => by
    simp only [fillL] at h
    simp only [List.all_cons, Bool.and_eq_true] at hp
    split at h
    · cases h
    · split at h
      · exact fill_flat (splice_flat hc hp.1) hp.2 h
      · cases h

/-- What an operation that makes a block does to the machine. -/
structure Makes (C : Cfg) (ι : Emb) (name : Nat) (v : Value) (b : Blk) (x : Sem Next) (w : World) : Prop where
  ex : ∃ v' w' c e fz, x.run C.P w = .ok (.value v') w' ∧ w'.heap = w.heap.push (.cells c e fz) ∧ b.cells.length ≤ c.size ∧
    (∀ (i : Nat) u, b.cells[i]? = some u → ∃ u', c[i]? = some u' ∧ VR ι u u') ∧ (∀ i, i < c.size → ¬ (fz.1 ≤ i ∧ i < fz.2)) ∧
    w'.os = w.os ∧ w'.tape = w.tape ∧ w'.output = w.output ∧ b.live = true ∧ b.own = true ∧ b.cells.all flat = true ∧
    ∀ ι', ι' name = some ⟨w.heap.size, 0, c.size, b.es⟩ → VR ι' v v'

theorem cells_of_vrl {xs ys : List Value} (h : VRL ι xs ys) : ∀ (i : Nat) u, xs[i]? = some u → ∃ u', ys.toArray[i]? = some u' ∧ VR ι u u' := fun i u hu => by
  obtain ⟨y, h1, h2⟩ := h.get hu
  exact ⟨y, by simpa using h1, h2⟩

variable (hC : CfgOK C)
include hC

theorem makes_alloc {name t : Nat} {d : TD} (hd : (C.ty t).d = d) (ho : isOther d = false) (o : Oper) (hop : o.op = .alloc t) :
    Makes C ι name (.pointer (some ⟨name, 0, none⟩)) ⟨(C.ty t).zero, 0, true, true⟩ (execOp a.eval o) w := by
  obtain ⟨z, hz, hz2⟩ := zero_run hC hd ho w
  have fits := ty_fits hC hd ho
  refine ⟨.pointer (some ⟨w.heap.size, 0, none⟩), { w with heap := w.heap.push (.cells z.cells t) }, z.cells, t, (0, 0), ?_, rfl, ?_, ?_, ?_, rfl, rfl, rfl, rfl, rfl, ?fl, ?_⟩
  case fl => exact const_flat fits.const
  · simp [execOp, hop, Instr.alloc, hz, newVar, newRow]
  · simp only; rw [← hz2]; simp
  · simp only
    rw [← hz2]
    have hk : VRL ι z.cells.toList z.cells.toList := .consts (by rw [hz2]; exact fits.const)
    simpa using cells_of_vrl hk
  · intro i _ h
    omega
  · intro ι' h
    have := VR.ptr (ι := ι') name 0 _ h
    simpa using this

omit hC in
theorem makes_box {name : Nat} {t : Nat} {x : Operand} {v : Value} (hT : TR ι T a.tmps) (hG : GlobOK C ι) (hx : ev C T x = some v) (hfl : v.cells.toList.all flat = true) (o : Oper) (hop : o.op = .box t x) :
    Makes C ι name (.pointer (some ⟨name, 0, none⟩)) ⟨v.cells.toList, 0, true, true⟩ (execOp a.eval o) w := by
  have hr := (ev_sound hT hG hx).cells
  refine ⟨.pointer (some ⟨w.heap.size, 0, none⟩), { w with heap := w.heap.push (.cells (a.eval x).cells t) }, (a.eval x).cells, t, (0, 0), ?_, rfl, ?_, ?_, ?_, rfl, rfl, rfl, rfl, rfl, ?fl, ?_⟩
  case fl => exact hfl
  · simp [execOp, hop, Instr.box, newVar, newRow]
  · simp only; have := hr.1; simp at this ⊢; omega
  · simpa using cells_of_vrl hr
  · intro i _ h
    omega
  · intro ι' h
    have := VR.ptr (ι := ι') name 0 _ h
    simpa using this

theorem makes_buildSlice {name t e len : Nat} {parts : Array (Nat × Operand)} {ps : List (Nat × Value)} {cs : List Value} {d : TD} (ht : (C.ty t).d = .slice e) (hd : (C.ty e).d = d) (ho : isOther d = false)
    (hT : TR ι T a.tmps) (hG : GlobOK C ι) (hp : evP C T parts.toList = some ps) (hlen : len * (C.ty e).size ≤ 16777216) (hpf : ps.all (fun p => p.2.cells.toList.all flat) = true)
    (hf : fillL (fun i => some (i * (C.ty e).size, (C.ty e).size)) (List.replicate len (C.ty e).zero).flatten ps = some cs) (o : Oper) (hop : o.op = .buildSlice t len parts) :
    Makes C ι name (.slice (some ⟨name, 0, none⟩) len len) ⟨cs, (C.ty e).size, true, true⟩ (execOp a.eval o) w := by
  have fits := ty_fits hC hd ho
  obtain ⟨z, hz, hz2⟩ := zero_run hC hd ho w
  have hq := evP_sound hT hG hp
  obtain ⟨r, hr1, hr2⟩ := fill_sound (fun _ _ h => h) hq (VRL.flat_rep fits.const len) hf
  have hzs : z.cells.size = (C.ty e).size := by rw [← fits.len, ← hz2]; simp
  have hz3 : z.cells.toList = (C.ty e).zero := hz2
  have hrep : ((Array.range (len * (C.ty e).size)).map (fun i => z.cells[i % z.cells.size]!)) = ((List.replicate len (C.ty e).zero).flatten).toArray := by
    rw [← hzs, ← hz3]
    exact range_rep z.cells len
  have hcl : cs.length = len * (C.ty e).size := by
    have : ∀ (ps : List (Nat × Value)) (x y : List Value), fillL (fun i => some (i * (C.ty e).size, (C.ty e).size)) x ps = some y → y.length = x.length := by
      intro ps
      induction ps with
      | nil => intro x y h; simp only [fillL] at h; cases h; rfl
      | cons p ps ih =>
        intro x y h
        obtain ⟨i, v⟩ := p
        simp only [fillL] at h
        split at h
        · rename_i hs
          rw [ih _ _ h, splice_length (by simp only [Array.length_toList]; omega)]
        · cases h
    rw [this _ _ _ hf, flat_rep_length, fits.len]
  refine ⟨.slice (some ⟨w.heap.size, 0, none⟩) len len, { w with heap := w.heap.push (.cells r.toArray e) }, r.toArray, e, (0, 0), ?_, rfl, ?_, ?_, ?_, rfl, rfl, rfl, rfl, rfl, ?fl, ?_⟩
  case fl => exact fill_flat (rep_flat (const_flat fits.const) len) hpf hf
  · have hparts : (parts.map fun (i, x) => (i, a.eval x)).toList = parts.toList.map fun (i, x) => (i, a.eval x) := by simp
    have hnot : ¬ (16777216 < len * (C.ty e).size) := by omega
    by_cases h0 : len * (C.ty e).size = 0
    · have hemp : (List.replicate len (C.ty e).zero).flatten = [] := by
        apply List.eq_nil_of_length_eq_zero
        rw [flat_rep_length, fits.len, h0]
      rw [hemp] at hr1
      have hr1' : Instr.fill (fun i => some (i * (C.ty e).size, (C.ty e).size)) #[] (parts.toList.map fun (i, x) => (i, a.eval x)) = some r.toArray := hr1
      simp only [execOp, hop, Instr.buildSlice, Sem.run_bind, run_underlying (under_slice hC ht), Result.andThen_ok, size_run hC hd ho w, Sem.run_ite, h0]
      have hr2' : Instr.fill (fun i => some (i * (C.ty e).size, (C.ty e).size)) #[] (parts.toList.map fun x => (x.1, a.eval x.2)) = some r.toArray := hr1'
      simp [show Array.range 0 = #[] from rfl, hr2', newRow]
    · have hr2' : Instr.fill (fun i => some (i * (C.ty e).size, (C.ty e).size)) ((List.replicate len (C.ty e).zero).flatten).toArray (parts.toList.map fun x => (x.1, a.eval x.2)) = some r.toArray := hr1
      simp only [execOp, hop, Instr.buildSlice, Sem.run_bind, run_underlying (under_slice hC ht), Result.andThen_ok, size_run hC hd ho w, Sem.run_ite]
      simp [hnot, h0, hz, hrep, hr2', newRow]
  · simp only; rw [hr2.1]; simp
  · exact cells_of_vrl hr2
  · intro i _ h
    omega
  · intro ι' h
    refine .sl name 0 len len _ 0 len h (Nat.le_refl _) (Nat.le_refl _) ?_ (.inr (by simp))
    simp only
    rw [Nat.zero_add, ← hcl, hr2.1]
    simp

theorem makes_makeSlice {name t e : Nat} {x y : Operand} {l c : Int} {d : TD} (ht : (C.ty t).d = .slice e) (hd : (C.ty e).d = d) (ho : isOther d = false)
    (hT : TR ι T a.tmps) (hG : GlobOK C ι) (hx : ev C T x = some (.int .i64 l)) (hy : ev C T y = some (.int .i64 c)) (h0 : 0 ≤ l) (hlc : l ≤ c) (hb : c * (C.ty e).bytes ≤ 281474976710656) (hc : c ≤ 281474976710656)
    (o : Oper) (hop : o.op = .makeSlice t x y) :
    Makes C ι name (.slice (some ⟨name, 0, none⟩) l.toNat c.toNat) ⟨(List.replicate c.toNat (C.ty e).zero).flatten, (C.ty e).size, true, true⟩ (execOp a.eval o) w := by
  have fits := ty_fits hC hd ho
  obtain ⟨z, hz, hz2⟩ := zero_run hC hd ho w
  obtain ⟨i, _, _, hi, _, hi2, _⟩ := info_run hC hd ho w
  have hzs : z.cells.size = (C.ty e).size := by rw [← fits.len, ← hz2]; simp
  have hz3 : z.cells.toList = (C.ty e).zero := hz2
  have hrep : ((Array.range (c.toNat * (C.ty e).size)).map (fun i => z.cells[i % z.cells.size]!)) = ((List.replicate c.toNat (C.ty e).zero).flatten).toArray := by
    rw [← hzs, ← hz3]
    exact range_rep z.cells c.toNat
  have ex : a.eval x = .int .i64 l := by have := ev_sound hT hG hx; generalize a.eval x = u at this; cases this; rfl
  have ey : a.eval y = .int .i64 c := by have := ev_sound hT hG hy; generalize a.eval y = u at this; cases this; rfl
  have wr1 : IntKind.i64.wrap l = l := IntWalk.i64_in _ (by omega)
  have wr2 : IntKind.i64.wrap c = c := IntWalk.i64_in _ (by omega)
  have hk : VRL ι (List.replicate c.toNat (C.ty e).zero).flatten (List.replicate c.toNat (C.ty e).zero).flatten := VRL.flat_rep fits.const c.toNat
  refine ⟨.slice (some ⟨w.heap.size, 0, none⟩) l.toNat c.toNat, { w with heap := w.heap.push (.cells ((List.replicate c.toNat (C.ty e).zero).flatten).toArray e) }, ((List.replicate c.toNat (C.ty e).zero).flatten).toArray, e, (0, 0), ?_, rfl, ?_, ?_, ?_, rfl, rfl, rfl, rfl, rfl, ?fl, ?_⟩
  case fl => exact rep_flat (const_flat fits.const) _
  · have hbc : ¬ (281474976710656 < (C.ty e).bytes * c) := by rw [Int.mul_comm]; omega
    have hc0 : ¬ (c < 0) := by omega
    have hl0 : ¬ (l < 0) := by omega
    have hcl : ¬ (c < l) := by omega
    by_cases hn : c.toNat * (C.ty e).size = 0
    · have hemp : (List.replicate c.toNat (C.ty e).zero).flatten = [] := by
        apply List.eq_nil_of_length_eq_zero
        rw [flat_rep_length, fits.len, hn]
      simp only [execOp, hop, Instr.makeSlice, Sem.run_bind, run_underlying (under_slice hC ht), Result.andThen_ok, ex, ey, asInt, asIntOf, Sem.run_pure, hi, hi2, wr1, wr2, hemp]
      simp [hbc, hc0, hl0, hcl, size_run hC hd ho w, hn, newRow, show Array.range 0 = #[] from rfl]
    · simp only [execOp, hop, Instr.makeSlice, Sem.run_bind, run_underlying (under_slice hC ht), Result.andThen_ok, ex, ey, asInt, asIntOf, Sem.run_pure, hi, hi2, wr1, wr2]
      simp [hbc, hc0, hl0, hcl, size_run hC hd ho w, hn, hz, hrep, newRow]
  · simp
  · exact cells_of_vrl hk
  · intro i _ h
    omega
  · intro ι' h
    refine .sl name 0 _ _ _ 0 c.toNat h (by omega) (Nat.le_refl _) ?_ (.inr (by simp))
    have := flat_rep_length (C.ty e).zero c.toNat
    simp only [List.size_toArray, Nat.zero_add]
    rw [this, fits.len]
    exact Nat.le_refl _


theorem makes_convert {name src dst e : Nat} {x : Operand} {s : ByteArray} (hs : (C.ty src).d = .str) (ht : (C.ty dst).d = .slice e) (he : (C.ty e).d = .int .u8)
    (hT : TR ι T a.tmps) (hG : GlobOK C ι) (hx : ev C T x = some (.string s)) (o : Oper) (hop : o.op = .convert src dst x) :
    Makes C ι name (.slice (some ⟨name, 0, none⟩) s.size s.size) ⟨ofBytes s, 1, true, true⟩ (execOp a.eval o) w := by
  have ex : a.eval x = .string s := by have := ev_sound hT hG hx; generalize a.eval x = u at this; cases this; rfl
  have hcap : s.size ≤ grownCap w s.size 0 e := by unfold grownCap; exact Nat.le_add_right _ _
  have hco : ∀ x ∈ ofBytes s, constOk x = true := fun x hx => by
    unfold ofBytes at hx
    rw [List.mem_map] at hx
    obtain ⟨b, _, rfl⟩ := hx
    rfl
  have hsz : (ofBytes s).length = s.size := by simp [ofBytes]
  generalize hc : ((ofBytes s).toArray ++ Array.replicate (grownCap w s.size 0 e - s.size) (.int .u8 0) : Array Value) = c
  have hcs : c.size = grownCap w s.size 0 e := by
    rw [← hc]
    simp [hsz]
    omega
  have hmap : (s.data.map fun b => (Value.int .u8 b.toNat)) = (ofBytes s).toArray := by
    apply Array.ext'
    simp [ofBytes]
  have hw : ∀ W : World, W.heap = w.heap.push (.cells c e) → (W.freeze ⟨w.heap.size, c.size, none⟩ 1).heap = w.heap.push (.cells c e (c.size, c.size + 1)) := by
    intro W hW
    unfold World.freeze
    simp only [Nat.one_ne_zero, if_false]
    rw [hW]
    apply Array.ext
    · simp
    · intro i h1 h2
      rw [Array.getElem_modify]
      split
      · rename_i hi
        subst hi
        simp
      · rename_i hi
        simp at h2
        have hlt : i < w.heap.size := by omega
        rw [Array.getElem_push_lt hlt, Array.getElem_push_lt hlt]
  refine ⟨.slice (some ⟨w.heap.size, 0, none⟩) s.size (grownCap w s.size 0 e), ((w.drew.alloc (.cells c e)).freeze ⟨w.heap.size, c.size, none⟩ 1), c, e, (c.size, c.size + 1), ?_, hw _ rfl, ?_, ?_, ?_, rfl, rfl, rfl, rfl, rfl, ?fl, ?_⟩
  case fl => exact const_flat hco
  · have hc' : (ofBytes s).toArray ++ Array.replicate ((Question.appendCap s.size 0 e).cut (w.tape w.drawn (Question.appendCap s.size 0 e)) - s.size) (.int .u8 0) = c := hc
    simp [execOp, hop, Go.convert, run_underlying (under_str hC hs), run_underlying (under_slice hC ht), run_underlying (under_int hC he), ex, Conv.stringToBytes, Question.forced, hmap, newRow, markStringish, World.shape?, grownCap]
    simp only [hc']
    have hge : ∀ h, (w.drew.alloc (Obj.cells c e)).heap[w.heap.size]'h = .cells c e := by
      intro h
      exact Array.getElem_push_eq (xs := w.heap)
    simp only [hge]
    simp
  · simp only; rw [hsz, hcs]; exact hcap
  · intro i u hu
    have hi := (List.getElem?_eq_some_iff.1 hu).1
    refine ⟨u, ?_, .const (hco u (List.mem_of_getElem? hu))⟩
    rw [← hc, Array.getElem?_append_left (by simpa using hi)]
    simpa using hu
  · intro i hi h
    simp only at h
    omega
  · intro ι' h
    refine .sl name 0 s.size s.size ⟨w.heap.size, 0, c.size, 1⟩ 0 _ h (Nat.le_refl _) hcap ?_ (.inr rfl)
    simp only [Nat.zero_add, Nat.mul_one]
    omega
end
end Go.Ab
