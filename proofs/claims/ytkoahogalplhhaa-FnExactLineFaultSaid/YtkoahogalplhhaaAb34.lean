/- Part of an own evaluator of Go code on numbered blocks, and of the proof that the machine does what it says; each theorem carries its own conditions. -/
import Derived.Test.YtkoahogalplhhaaAb33
import Derived.ChangeArms
import Derived.DataReads
import Derived.WideShapes
set_option linter.unusedVariables false
set_option linter.unusedSimpArgs false
namespace Go.Ab

/-! ## The arguments of a claim, as values with all that they reach inline -/

/-- Everything that is there is frozen. -/
def iceAll (W : World) : Emb := { loc := fun _ => none, fz := fun g => match W.heap[g]? with
  | some (.cells c _ _) => some c
  | _ => none }

theorem iceAll_rep (B : Nat) (W : World) : Rep B (iceAll W) [] W := by
  refine ⟨?_, ?_, ?_, ?_, ?_, ?_, ?_⟩
  · intro n l b h; cases h
  · intro n n' l l' b b' _ h; cases h
  · intro n l b h; cases h
  · intro n l b h; cases h
  · intro g c h
    have h : (match W.heap[g]? with
      | some (.cells c _ _) => some c
      | _ => none) = some c := h
    split at h
    · rename_i e z hh
      cases h
      exact ⟨_, _, hh⟩
    · cases h
  · intro n l b h; cases h
  · intro n l b h; cases h

theorem iceAll_bare (W : World) : (iceAll W).bare = iceAll W := rfl

theorem iceAll_cell {W : World} {a : Addr} {v : Value} (h : W.cell? a = some v) : a.spot = none ∧ ∃ c, (iceAll W).fz a.block = some c ∧ c[a.off]? = some v := by
  refine ⟨World.cell?_spot h, ?_⟩
  unfold World.cell? at h
  split at h
  · rename_i c e z hc
    split at h
    · cases h
    · refine ⟨c, ?_, h⟩
      show (match W.heap[a.block]? with
        | some (.cells c _ _) => some c
        | _ => none) = some c
      rw [hc]
  · cases h

theorem addr_add2 (a : Addr) (x y : Nat) : (a.add x).add y = a.add (x + y) := by
  unfold Addr.add
  by_cases hx : x = 0
  · subst hx; simp
  · by_cases hy : y = 0
    · subst hy; simp [hx]
    · simp [hx, hy, Nat.add_assoc]

/-- The cells of a value of a type. -/
inductive Typed (C : Cfg) : Nat → List Value → Prop where
  | int (t : Nat) (q : IntKind) (n : Int) : (C.ty t).d = .int q → (Lit.int q n).wf = true → Typed C t [.int q n]
  | bool (t : Nat) (b : Bool) : (C.ty t).d = .bool → Typed C t [.bool b]
  | str (t : Nat) (s : ByteArray) : (C.ty t).d = .str → s.size ≤ maxLen → Typed C t [.string s]
  | slice (t e : Nat) (L : List (List Value)) : (C.ty t).d = .slice e → L.length ≤ maxLen → (∀ x ∈ L, Typed C e x) → (∀ x ∈ L, x.length = (C.ty e).size) → Typed C t [roS L.length L.flatten]
  | struct (t : Nat) (fs : List (Nat × Nat)) (cs : List Value) : (C.ty t).d = .struct fs → cs.length = (C.ty t).size → (∀ p ∈ fs, Typed C p.2 ((cs.drop p.1).take (C.ty p.2).size)) → Typed C t cs

/-- The parts of a struct lie one behind the other. -/
def tiles (C : Cfg) : List (Nat × Nat) → Nat → Nat → Bool
  | [], o, n => o == n
  | (off, t) :: fs, o, n => off == o && tiles C fs (o + (C.ty t).size) n

/-- Types that are read so, all their parts with them. -/
def goodB (C : Cfg) (l : List Nat) : Bool := l.all fun t => match (C.ty t).d with
  | .int _ => true
  | .bool => true
  | .str => true
  | .slice e => l.contains e && (C.ty e).size != 0
  | .struct fs => fs.all (fun p => l.contains p.2) && tiles C fs 0 (C.ty t).size
  | _ => false

section
variable {C : Cfg} (hC : CfgOK C)
include hC

theorem cellsOf_ty {t : Nat} {d : TD} (h : (C.ty t).d = d) (hd : isOther d = false) : C.P.cellsOf t = (C.ty t).size := by
  obtain ⟨i, _, z, h1, _, _, h4, _⟩ := (ty_fits hC h hd).ex
  unfold Program.cellsOf
  rw [h1]
  exact h4

omit hC in
theorem pick_list {α : Type} {p : Nat → α → Prop} : ∀ (n : Nat), (∀ i, i < n → ∃ x, p i x) → ∃ L : List α, L.length = n ∧ ∀ (i : Nat) x, L[i]? = some x → p i x := by
  intro n
  induction n with
  | zero => exact fun _ => ⟨[], rfl, fun i x h => by simp at h⟩
  | succ n ih =>
    intro h
    obtain ⟨L, h1, h2⟩ := ih (fun i hi => h i (by omega))
    obtain ⟨x, hx⟩ := h n (by omega)
    refine ⟨L ++ [x], by simp [h1], fun i y hy => ?_⟩
    rcases Nat.lt_or_ge i L.length with hi | hi
    · rw [List.getElem?_append_left hi] at hy
      exact h2 i y hy
    · rw [List.getElem?_append_right hi] at hy
      have hl := (List.getElem?_eq_some_iff.1 hy).1
      simp at hl
      have : i = n := by omega
      subst this
      rw [h1] at hy
      simp at hy
      subst hy
      exact hx

omit hC in
theorem flatten_get {n : Nat} (hn : 0 < n) : ∀ (L : List (List Value)), (∀ x ∈ L, x.length = n) → ∀ (j : Nat) v, L.flatten[j]? = some v → ∃ x, L[j / n]? = some x ∧ x[j % n]? = some v
  | [], _, j, v, h => by simp at h
  | x :: L, hL, j, v, h => by
    have hx := hL x (List.mem_cons_self ..)
    rw [List.flatten_cons] at h
    rcases Nat.lt_or_ge j n with hj | hj
    · rw [List.getElem?_append_left (by omega)] at h
      refine ⟨x, ?_, ?_⟩
      · rw [Nat.div_eq_of_lt hj]; rfl
      · rw [Nat.mod_eq_of_lt hj]; exact h
    · rw [List.getElem?_append_right (by omega), hx] at h
      obtain ⟨y, h1, h2⟩ := flatten_get hn L (fun z hz => hL z (List.mem_cons_of_mem _ hz)) (j - n) v h
      refine ⟨y, ?_, ?_⟩
      · rw [Nat.div_eq_sub_div hn hj, List.getElem?_cons_succ]; exact h1
      · rw [Nat.mod_eq_sub_mod hj]; exact h2

omit hC in
theorem flatten_length {n : Nat} : ∀ (L : List (List Value)), (∀ x ∈ L, x.length = n) → L.flatten.length = L.length * n
  | [], _ => by simp
  | x :: L, hL => by
    rw [List.flatten_cons, List.length_append, hL x (List.mem_cons_self ..), flatten_length L (fun z hz => hL z (List.mem_cons_of_mem _ hz)), List.length_cons, Nat.add_mul]
    omega

variable {H : Type} {enc : TypeId × Value → H} {W : World} {base : Nat} {spare : Nat → Bool} {held : Bool}

theorem read {l : List Nat} (hg : goodB C l = true) : ∀ (fuel : Nat) (t : Nat) (cs : List Value) (x : DataW H × List MemPlace), t ∈ l → DataW.trod enc C.P W base spare held fuel t cs = some x →
    ∃ cs0, VRL (iceAll W) cs0 cs ∧ Typed C t cs0 ∧ cs0.all flat = true := by
  intro fuel
  induction fuel with
  | zero => intro t cs x _ h; simp [DataW.trod] at h
  | succ fuel ih =>
    intro t cs x ht h
    have hgt := hg
    unfold goodB at hgt
    rw [List.all_eq_true] at hgt
    have hgt := hgt t ht
    split at hgt
    · rename_i q hd
      obtain ⟨n, rfl, _, hw⟩ := DataW.trod_int (under_int hC hd) h
      exact ⟨[.int q n], .cons (.int q n) .nil, .int t q n hd hw, rfl⟩
    · rename_i hd
      obtain ⟨b, rfl, _⟩ := DataW.trod_bool (under_bool hC hd) h
      exact ⟨[.bool b], .cons (.bool b) .nil, .bool t b hd, rfl⟩
    · rename_i hd
      obtain ⟨s, rfl, _, hs⟩ := DataW.trod_string (under_str hC hd) h
      exact ⟨[.string s], .cons (.string s) .nil, .str t s hd hs, rfl⟩
    · rename_i e hd
      simp only [Bool.and_eq_true, bne_iff_ne, ne_eq] at hgt
      have he : e ∈ l := by simpa using hgt.1
      have hoe : isOther (C.ty e).d = false := by
        have hge := hg
        unfold goodB at hge
        rw [List.all_eq_true] at hge
        have := hge e he
        split at this <;> simp_all [isOther]
      have hce := cellsOf_ty hC (t := e) rfl hoe
      have hn : 0 < (C.ty e).size := by omega
      rcases DataW.trod_slice (under_slice hC hd) h with ⟨rfl, _⟩ | ⟨a, len, cap, elems, rest, n, hf, rfl, _, hb, hl, hm, hlen, hel, _, _⟩
      · exact ⟨[roS 0 []], .cons (.ro0 none 0 trivial) .nil, .slice t e [] hd (by simp) (by simp) (by simp), rfl⟩
      · cases hf
        have each : ∀ i, i < len → ∃ x : List Value × List Value, W.cells? base (a.add (i * (C.ty e).size)) (C.ty e).size = some x.1 ∧ VRL (iceAll W) x.2 x.1 ∧ Typed C e x.2 ∧ x.2.all flat = true := by
          intro i hi
          have h1 := hel i hi
          rw [hce] at h1
          have h2 : ∃ y, elems[i]? = some y := ⟨_, List.getElem?_eq_getElem (by omega)⟩
          obtain ⟨y, hy⟩ := h2
          rw [hy, Option.bind_eq_some_iff] at h1
          obtain ⟨cs', h3, h4⟩ := h1
          obtain ⟨cs0, h5, h6, h7⟩ := ih e cs' y he h4
          exact ⟨(cs', cs0), h3, h5, h6, h7⟩
        obtain ⟨M, hM, hp⟩ := pick_list len each
        let L := M.map (·.2)
        have hL : L.length = len := by simp [L, hM]
        have memL : ∀ x ∈ L, ∃ (i : Nat) (y : List Value × List Value), M[i]? = some y ∧ y.2 = x := by
          intro x hx
          simp only [L, List.mem_map] at hx
          obtain ⟨y, hy, rfl⟩ := hx
          obtain ⟨i, hi⟩ := List.getElem?_of_mem hy
          exact ⟨i, y, hi, rfl⟩
        have hsz : ∀ x ∈ L, x.length = (C.ty e).size := by
          intro x hx
          obtain ⟨i, y, hi, rfl⟩ := memL x hx
          obtain ⟨h1, h2, _⟩ := hp i y hi
          rw [h2.1]
          exact (World.cells?_some h1).2.1
        have hty : ∀ x ∈ L, Typed C e x := by
          intro x hx
          obtain ⟨i, y, hi, rfl⟩ := memL x hx
          exact (hp i y hi).2.2.1
        have hfl : L.flatten.all flat = true := by
          rw [List.all_eq_true]
          intro v hv
          rw [List.mem_flatten] at hv
          obtain ⟨x, hx, hv⟩ := hv
          obtain ⟨i, y, hi, rfl⟩ := memL x hx
          have := (hp i y hi).2.2.2
          rw [List.all_eq_true] at this
          exact this v hv
        have cell : ∀ (j : Nat) v, L.flatten[j]? = some v → ∃ v', W.cell? (a.add j) = some v' ∧ VR (iceAll W) v v' := by
          intro j v hv
          obtain ⟨x, h1, h2⟩ := flatten_get hn L hsz j v hv
          simp only [L, List.getElem?_map, Option.map_eq_some_iff] at h1
          obtain ⟨y, h3, rfl⟩ := h1
          obtain ⟨h4, h5, _⟩ := hp _ y h3
          obtain ⟨v', h6, h7⟩ := h5.get h2
          refine ⟨v', ?_, h7⟩
          have h8 := (World.cells?_some h4).2.2 (j % (C.ty e).size) (Nat.mod_lt _ hn)
          rw [h6] at h8
          rw [← h8]
          congr 1
          have : j / (C.ty e).size * (C.ty e).size + j % (C.ty e).size = j := by
            have := Nat.div_add_mod j (C.ty e).size
            rw [Nat.mul_comm] at this
            exact this
          rw [addr_add2, this]
        have fin : VR (iceAll W) (roS L.length L.flatten) (.slice (some a) len cap) := by
          rw [hL]
          rcases Nat.eq_zero_or_pos len with h0 | h0
          · have : L = [] := List.eq_nil_of_length_eq_zero (by omega)
            rw [this, h0]
            exact .ro0 _ _ trivial
          · have hfl0 : 0 < L.flatten.length := by
              rw [flatten_length L hsz, hL]
              exact Nat.mul_pos h0 hn
            obtain ⟨v', h1, _⟩ := cell 0 _ (List.getElem?_eq_getElem hfl0)
            obtain ⟨hsp0, _⟩ := iceAll_cell h1
            have ha : ∃ g o, a = ⟨g, o, none⟩ := by
              have hsp0 : a.spot = none := hsp0
              cases a with
              | mk bl of sp => simp only at hsp0; subst hsp0; exact ⟨bl, of, rfl⟩
            obtain ⟨g, o, rfl⟩ := ha
            have hadd : ∀ j, (⟨g, o, none⟩ : Addr).add j = ⟨g, o + j, none⟩ := by
              intro j
              unfold Addr.add
              split
              · rename_i hj; simp_all
              · rfl
            have hc : ∃ c, (iceAll W).fz g = some c := by
              obtain ⟨_, c, h2, _⟩ := iceAll_cell h1
              rw [hadd] at h2
              exact ⟨c, h2⟩
            obtain ⟨c, hc⟩ := hc
            have at' : ∀ (j : Nat) v, L.flatten[j]? = some v → ∃ v', c[o + j]? = some v' ∧ VR (iceAll W) v v' := by
              intro j v hv
              obtain ⟨v', h1, h2⟩ := cell j v hv
              obtain ⟨_, c', h3, h4⟩ := iceAll_cell h1
              rw [hadd] at h3 h4
              rw [hc] at h3
              cases h3
              exact ⟨v', h4, h2⟩
            refine .ro len L.flatten.toArray g o cap c hc (.inr ?_) hl ?_ (by simpa using hfl)
            · obtain ⟨v', h2, _⟩ := at' (L.flatten.length - 1) _ (List.getElem?_eq_getElem (by omega))
              have := (Array.getElem?_eq_some_iff.1 h2).1
              rw [List.size_toArray]
              omega
            · intro i v v' h1 h2
              obtain ⟨u, h3, h4⟩ := at' i v (by simpa using h1)
              rw [h2] at h3
              cases h3
              rw [iceAll_bare]
              exact h4
        exact ⟨[roS L.length L.flatten], .cons fin .nil, .slice t e L hd (by omega) hty hsz, rfl⟩
    · rename_i fs hd
      simp only [Bool.and_eq_true, List.all_eq_true] at hgt
      obtain ⟨gs, hu, hfs⟩ := under_struct hC hd
      obtain ⟨xs, n, hf, _, hlen, hxs, hpart⟩ := DataW.trod_struct hu h
      cases hf
      have hct := cellsOf_ty hC hd rfl
      rw [hct] at hlen
      have parts : ∀ p ∈ fs, ∃ cs0, VRL (iceAll W) cs0 ((cs.drop p.1).take (C.ty p.2).size) ∧ Typed C p.2 cs0 ∧ cs0.all flat = true := by
        intro p hp
        rw [← hfs, List.mem_map] at hp
        obtain ⟨f, hf, rfl⟩ := hp
        obtain ⟨i, hi⟩ := List.getElem?_of_mem hf
        have hi : gs[i]? = some f := by simpa using hi
        have h1 := hpart i f hi
        have h2 : ∃ y, xs[i]? = some y := ⟨_, List.getElem?_eq_getElem (by have := (Array.getElem?_eq_some_iff.1 hi).1; omega)⟩
        obtain ⟨y, hy⟩ := h2
        rw [hy] at h1
        have hl' : f.type ∈ l := by
          have := hgt.1 (f.offset, f.type) (by rw [← hfs, List.mem_map]; exact ⟨f, hf, rfl⟩)
          simpa using this
        have hoe : isOther (C.ty f.type).d = false := by
          have hge := hg
          unfold goodB at hge
          rw [List.all_eq_true] at hge
          have := hge _ hl'
          split at this <;> simp_all [isOther]
        rw [cellsOf_ty hC (t := f.type) rfl hoe] at h1
        exact ih _ _ y hl' h1
      -- the parts, one behind the other
      have glue : ∀ (fs' : List (Nat × Nat)) (o : Nat), (∀ p ∈ fs', p ∈ fs) → tiles C fs' o (C.ty t).size = true → ∃ cs0, VRL (iceAll W) cs0 (cs.drop o) ∧ cs0.all flat = true ∧ ∀ p ∈ fs', o ≤ p.1 ∧ Typed C p.2 ((cs0.drop (p.1 - o)).take (C.ty p.2).size) := by
        intro fs'
        induction fs' with
        | nil =>
          intro o _ ht'
          simp only [tiles, beq_iff_eq] at ht'
          refine ⟨[], ?_, rfl, by simp⟩
          rw [ht', ← hlen, List.drop_length]
          exact .nil
        | cons p fs' ih' =>
          intro o hsub ht'
          obtain ⟨off, t'⟩ := p
          simp only [tiles, Bool.and_eq_true, beq_iff_eq] at ht'
          obtain ⟨rfl, ht'⟩ := ht'
          obtain ⟨c1, r1, ty1, f1⟩ := parts (off, t') (hsub _ (List.mem_cons_self ..))
          obtain ⟨c2, r2, f2, p2⟩ := ih' (off + (C.ty t').size) (fun q hq => hsub q (List.mem_cons_of_mem _ hq)) ht'
          have hle : off + (C.ty t').size ≤ (C.ty t).size := by
            clear p2 r2 f2 ih' parts hsub
            revert ht'
            generalize off + (C.ty t').size = o'
            clear ty1 r1 f1
            induction fs' generalizing o' with
            | nil => intro h; simp only [tiles, beq_iff_eq] at h; omega
            | cons q fs'' ih'' =>
              intro h
              obtain ⟨oq, tq⟩ := q
              simp only [tiles, Bool.and_eq_true, beq_iff_eq] at h
              have := ih'' _ h.2
              omega
          have hc1 : c1.length = (C.ty t').size := by
            rw [r1.1]
            simp only [List.length_take, List.length_drop]
            omega
          refine ⟨c1 ++ c2, ?_, by rw [List.all_append, f1, f2]; rfl, ?_⟩
          · have : cs.drop off = (cs.drop off).take (C.ty t').size ++ cs.drop (off + (C.ty t').size) := by
              rw [← List.drop_drop, List.take_append_drop]
            rw [this]
            exact r1.append r2
          · intro q hq
            rw [List.mem_cons] at hq
            rcases hq with rfl | hq
            · refine ⟨Nat.le_refl _, ?_⟩
              rw [Nat.sub_self, List.drop_zero, List.take_left' hc1]
              exact ty1
            · obtain ⟨q1, q2⟩ := p2 q hq
              refine ⟨by omega, ?_⟩
              have : (c1 ++ c2).drop (q.1 - off) = c2.drop (q.1 - (off + (C.ty t').size)) := by
                rw [List.drop_append, List.drop_eq_nil_of_le (by omega), List.nil_append]
                congr 1
                omega
              rw [this]
              exact q2
      obtain ⟨cs0, g1, g2, g3⟩ := glue fs 0 (fun p hp => hp) hgt.2
      rw [List.drop_zero] at g1
      refine ⟨cs0, g1, .struct t fs cs0 hd (by rw [g1.1]; exact hlen) (fun p hp => ?_), g2⟩
      have := (g3 p hp).2
      rw [Nat.sub_zero] at this
      exact this
    · cases hgt

/-- A value of a type. -/
def TypedV (C : Cfg) (t : Nat) (a : Value) : Prop := match (C.ty t).d with
  | .struct _ => ∃ cs, a = .agg cs ∧ Typed C t cs.toList
  | _ => Typed C t [a]

theorem read_arg {l : List Nat} (hg : goodB C l = true) {t : Nat} (ht : t ∈ l) {r : Reach} {b0 : Nat} {v : Value} {d : DataW H} {ps : List MemPlace} (hval : Value.okWide C.P W r b0 t v) (h : DataW.Trod enc C.P W base spare held t v d ps) :
    ∃ a, VR (iceAll W) a v ∧ TypedV C t a := by
  obtain ⟨fuel, hf⟩ := h
  obtain ⟨cs0, h1, h2, h3⟩ := read hC hg fuel t _ _ ht hf
  have hgt := hg
  unfold goodB at hgt
  rw [List.all_eq_true] at hgt
  have hgt := hgt t ht
  have flat1 : ∀ {u : Value}, v = u → u.cells.toList = [u] → ∃ a, VR (iceAll W) a v ∧ Typed C t [a] := by
    intro u e hu
    subst e
    rw [hu] at h1
    match cs0, h1, h2 with
    | [a], h1, h2 => exact ⟨a, h1.head, h2⟩
    | [], h1, _ => exact absurd h1.1 (by simp)
    | _ :: _ :: _, h1, _ => exact absurd h1.1 (by simp)
  split at hgt
  · rename_i q hd
    obtain ⟨n, rfl⟩ := WideShapes.okWide_int (under_int hC hd) hval
    simpa only [TypedV, hd] using flat1 rfl rfl
  · rename_i hd
    obtain ⟨n, rfl⟩ := WideShapes.okWide_bool (under_bool hC hd) hval
    simpa only [TypedV, hd] using flat1 rfl rfl
  · rename_i hd
    obtain ⟨n, rfl⟩ := WideShapes.okWide_string (under_str hC hd) hval
    simpa only [TypedV, hd] using flat1 rfl rfl
  · rename_i e hd
    obtain ⟨n, m, k, rfl⟩ := WideShapes.okWide_slice (under_slice hC hd) hval
    simpa only [TypedV, hd] using flat1 rfl rfl
  · rename_i fs hd
    obtain ⟨gs, hu, _⟩ := under_struct hC hd
    have : ∃ cs, v = .agg cs := by
      simp only [Value.okWide, hu] at hval
      obtain ⟨cs, e, _⟩ := hval
      exact ⟨cs, e⟩
    obtain ⟨cs, rfl⟩ := this
    refine ⟨.agg cs0.toArray, ?_, ?_⟩
    · have h1 : VRL (iceAll W) cs0 cs.toList := h1
      have := h1.agg
      simpa using this
    · simp only [TypedV, hd]
      exact ⟨cs0.toArray, rfl, by simpa using h2⟩
  · cases hgt
end
end Go.Ab
