/- Part of an own evaluator of Go code on numbered blocks, and of the proof that the machine does what it says; each theorem carries its own conditions. -/
import Derived.Test.YtkoahogalplhhaaAb16
import Derived.Laws.Sem
set_option linter.unusedVariables false
set_option linter.unusedSimpArgs false
namespace Go.Ab

def resSem (a : Act) : ResultVar → Sem Value
  | .tmp t => pure (a.tmps.getD t undef)
  | .cell x t => do loadVar t (← asAddr (a.tmps.getD x undef))

section
variable {C : Cfg} {B : Nat} {ι : Emb} {T : Tm} {a : Act} {m : Mem} {w : World}
variable (hC : CfgOK C)
include hC

theorem resOf_sound (R : Rep B ι m w) (hT : TR ι T a.tmps) {r : ResultVar} {v : Value} (h : resOf C m T r = some v) :
    ∃ v', VR ι v v' ∧ (resSem a r).run C.P w = .ok v' w := by
  unfold resOf at h
  cases r with
  | tmp t =>
    simp only at h
    obtain ⟨v', h1, h2⟩ := hT t v h
    exact ⟨v', h2, by simp [resSem, Array.getD_eq_getD_getElem?, h1]⟩
  | cell x t =>
    simp only at h
    split at h
    · rename_i p hp
      obtain ⟨u, h1, h2⟩ := hT x _ hp
      cases h2 with
      | ptr n o l hl =>
      obtain ⟨s1, s2⟩ := loadVar_sound hC (t := t) (o := o) R hl
      have fin : ∀ v', (loadVar t ⟨l.g, l.sh + o, none⟩).run C.P w = .ok v' w → (resSem a (.cell x t)).run C.P w = .ok v' w := by
        intro v' hv
        simp [resSem, Array.getD_eq_getD_getElem?, h1, asAddr, hv]
      have key : ∀ d, (C.ty t).d = d → isOther d = false → aggD d = false → one (rd m n o 1) = some v → ∃ v', VR ι v v' ∧ (resSem a (.cell x t)).run C.P w = .ok v' w := by
        intro d hd q1 q2 hu
        obtain ⟨v', r, hv'⟩ := s2 _ _ hd q1 q2 (one_some hu)
        exact ⟨v', r, fin v' hv'⟩
      cases hd : (C.ty t).d with
      | other => simp [hd] at h
      | struct fs =>
        simp only [hd] at h
        split at h
        · rename_i cs hr
          cases h
          obtain ⟨v', r, hv'⟩ := s1 fs cs hd hr
          exact ⟨v', r, fin v' hv'⟩
        · cases h
      | _ => exact key _ hd rfl rfl (by simpa [hd] using h)
    · cases h

theorem resL_sound (R : Rep B ι m w) (hT : TR ι T a.tmps) : ∀ {rs : List ResultVar} {vs : List Value}, resL C m T rs = some vs →
    ∃ vs', VRL ι vs vs' ∧ (rs.mapM (resSem a)).run C.P w = .ok vs' w
  | [], vs, h => by
    simp only [resL] at h
    cases h
    exact ⟨[], .nil, by simp⟩
  | r :: rs, vs, h => by
    simp only [resL] at h
    split at h
    · cases h
    · rename_i v hv
      split at h
      · cases h
      · rename_i vs1 hvs
        cases h
        obtain ⟨v', r1, h1⟩ := resOf_sound hC R hT hv
        obtain ⟨vs', r2, h2⟩ := resL_sound R hT hvs
        refine ⟨v' :: vs', .cons r1 r2, ?_⟩
        rw [List.mapM_cons]
        simp only [Sem.run_bind, h1, Result.andThen_ok, h2, Sem.run_pure]

theorem resultA_sound (R : Rep B ι m w) (hT : TR ι T a.tmps) {fn : Func} {v : Value} (h : resultA C fn m T = some v) : ∃ v', VR ι v v' ∧ (results fn a.tmps).run C.P w = .ok v' w := by
  unfold resultA at h
  have hres : ∀ vs', (fn.results.toList.mapM (resSem a)).run C.P w = .ok vs' w →
      (results fn a.tmps).run C.P w = .ok (if h : vs'.toArray.size = 1 then vs'.toArray[0] else .tuple vs'.toArray) w := by
    intro vs' h'
    have e : results fn a.tmps = (do
        let vs ← fn.results.mapM (resSem a)
        pure (if h : vs.size = 1 then vs[0] else .tuple vs)) := by
      unfold results
      congr 1
    rw [e]
    rw [Array.mapM_eq_mapM_toList]
    simp only [map_eq_pure_bind, Sem.run_bind, Sem.run_pure]
    rw [h']
    rfl
  split at h
  · rename_i u hu
    cases h
    obtain ⟨vs', r, h1⟩ := resL_sound hC R hT hu
    obtain ⟨y, ys, rfl, r1, r2⟩ := r.cases_cons
    cases r2.cases_nil
    exact ⟨y, r1, hres _ h1⟩
  · rename_i vs hne hu
    cases h
    obtain ⟨vs', r, h1⟩ := resL_sound hC R hT hu
    refine ⟨.tuple vs'.toArray, r.tuple, ?_⟩
    have : ¬ vs'.toArray.size = 1 := by
      intro h2
      have h3 : vs.length = 1 := by rw [r.1]; simpa using h2
      match vs, h3 with
      | [x], _ => exact hne x rfl
    rw [hres _ h1, dif_neg this]
  · cases h
end

section
variable {C : Cfg}

/-- What a run of the evaluator promises of the machine's run. -/
def Ends (C : Cfg) (k : Nat) : Prop := ∀ (fn : Func) (todo : List Item) (T : Tm) (m : Mem) (v : Value) (m' : Mem), run C k fn todo T m = some (v, m') →
  Grow m m' ∧ ∀ (B : Nat) (ι : Emb) (w : World) (a : Act) (b : Frame) (cs : List Frame), Rep B ι m w → GlobOK C ι → B ≤ w.heap.size → TR ι T a.tmps → Free ι m.length m'.length → fn.ntmps ≤ a.tmps.size → a.defers = [] →
    ∃ w' fr ι' v', Steps C.P (lone (b.at a todo) cs w) (lone fr cs w') ∧ fr.fn = b.fn ∧ fr.kind = b.kind ∧ fr.mode = .returning ∧ fr.defers = [] ∧ (results fn fr.tmps).run C.P w' = .ok v' w' ∧ After B ι m w ι' m' w' ∧ VR ι' v v'

theorem bare_le_of {ι ι1 : Emb} (h : ∀ g c, ι.fz g = some c → ι1.fz g = some c) : ι.bare.le ι1 := ⟨fun _ _ e => by simp [Emb.bare] at e, h⟩

theorem mapF_len {f : Value → Option (Value × List Nat)} : ∀ {vs xs : List Value} {ns : List Nat}, mapF f vs = some (xs, ns) → xs.length = vs.length
  | [], xs, ns, h => by simp only [mapF] at h; cases h; rfl
  | v :: vs, xs, ns, h => by
    simp only [mapF] at h
    split at h
    · cases h
    · split at h
      · cases h
      · rename_i h2
        cases h
        simp [mapF_len h2]

theorem argsT_lookup : ∀ (i : Nat) (vs : List Value) (t : Nat), (argsT i vs).lookup t = if i ≤ t then vs[t - i]? else none
  | i, [], t => by simp [argsT]
  | i, v :: vs, t => by
    rw [argsT, List.lookup_cons, argsT_lookup (i + 1) vs t]
    by_cases e : t = i
    · subst e; simp
    · have : (t == i) = false := by simpa using e
      rw [this]
      simp only
      by_cases h : i ≤ t
      · rw [if_pos h, if_pos (by omega)]
        have : t - i = (t - (i + 1)) + 1 := by omega
        rw [this, List.getElem?_cons_succ]
      · rw [if_neg h, if_neg (by omega)]

/-- A body that is run to its end is a call of the machine. -/
theorem body_calls {k : Nat} (H : Ends C k) {f : FuncId} {g : Func} {c : Code} (hg : C.P.funcs[f]? = some g) (hb : g.body = some c) {args : List Value} {m m' : Mem} {v : Value} (hl : args.length ≤ g.ntmps) (h : run C k g [.code c] (argsT 0 args) m = some (v, m'))
    (B : Nat) (ι : Emb) (w : World) (args' : Array Value) (R : Rep B ι m w) (hG : GlobOK C ι) (hB : B ≤ w.heap.size) (hargs : VRL ι args args'.toList) (hF : Free ι m.length m'.length) :
    Calls C.P f args' w fun e w' => ∃ v' ι', e = .returned v' ∧ After B ι m w ι' m' w' ∧ VR ι' v v' := by
  obtain ⟨_, h2⟩ := H _ _ _ _ _ _ h
  intro cs
  have hlen : args'.size = args.length := by have := hargs.1; simpa using this.symm
  obtain ⟨w', fr, ι', v', q1, q2, q3, q4, q5, q6, q7, q8⟩ := h2 B ι w { tmps := args' ++ Array.replicate (g.ntmps - args'.size) undef, defers := [] } { (default : Frame) with fn := f, kind := .normal } cs R hG hB (by
      intro t u hu
      rw [argsT_lookup] at hu
      simp at hu
      obtain ⟨y, e1, e2⟩ := hargs.get hu
      refine ⟨y, ?_, e2⟩
      have ht : t < args'.size := by
        have := (List.getElem?_eq_some_iff.1 e1).1
        simpa using this
      rw [Array.getElem?_append_left ht]
      simpa using e1) hF (by simp; omega) rfl
  have henter : Frame.enter C.P f args' .normal = ({ (default : Frame) with fn := f, kind := .normal } : Frame).at { tmps := args' ++ Array.replicate (g.ntmps - args'.size) undef, defers := [] } [.code c] := by
    simp [Frame.enter, Frame.at, hg, hb]
  exact ⟨.returned v', w', fr, ⟨v', ι', rfl, q7, q8⟩, by rw [henter]; exact q1, q2, q4, q5, q3, g, by rw [q2]; exact hg, q6⟩

theorem call_of_ends {k : Nat} (H : Ends C k) : CallOK C (callA C k) := by
  intro f args m v m' h
  unfold callA callWith at h
  split at h
  · cases h
  · rename_i g hg
    split at h
    · cases h
    · rename_i c hb
      split at h
      · rename_i hcond
        split at h
        · rename_i hst
          split at h
          · rename_i hglob
            split at h
            · rename_i as ns has
              split at h
              · rename_i v0 m2 hrun
                split at h
                · rename_i vf ns2 hvf
                  cases h
                  refine ⟨seal_grow m ns, ⟨g, hg, hcond.2, by rw [hb]; rfl⟩, ?_⟩
                  intro B ι w args' R hG hB hargs _
                  have seen := mapF_seen (frz_seen R 64) _ _ _ _ has hargs
                  have S := After.seal R seen
                  have las := mapF_sound (fun v v' vf ns => frz_sound R (freeze_le R _).fz 64 v v' vf ns) _ _ _ _ has (freeze_iced R ns) hargs
                  have hall : ∀ (n : Nat) (b : Blk), (m.take C.G)[n]? = some b → b.own = false ∧ b.cells.all inert = true := by
                    intro n b hn
                    have := hglob.2
                    rw [List.all_eq_true] at this
                    have := this b (List.mem_of_getElem? hn)
                    simpa using this
                  have hsame : (sealM m ns).take C.G = m.take C.G := by
                    apply List.ext_getElem?
                    intro n
                    rw [List.getElem?_take, List.getElem?_take]
                    split
                    · rename_i hn
                      have hnm : n < m.length := by omega
                      have h1 : (sealM m ns)[n]? = some ((sealM m ns)[n]'(by rw [seal_len]; exact hnm)) := List.getElem?_eq_getElem _
                      obtain ⟨b, q1, q2, q3, q4, q5⟩ := seal_get ns m n _ h1
                      rw [h1, q1]
                      rcases q5 with ⟨_, q5⟩ | ⟨_, q5⟩
                      · have ho := (hall n b (by rw [List.getElem?_take, if_pos hn]; exact q1)).1
                        generalize (sealM m ns)[n]'(by rw [seal_len]; exact hnm) = b' at q2 q3 q4 q5
                        cases b; cases b'
                        simp only at q2 q3 q4 q5 ho
                        subst q2 q3 q4 q5 ho
                        rfl
                      · rw [q5]
                    · rfl
                  have hin : ∀ (n : Nat) (b : Blk), ((sealM m ns).take C.G)[n]? = some b → b.cells.all inert = true := fun n b hn => by
                    rw [hsame] at hn
                    exact (hall n b hn).2
                  have hown : ∀ (n : Nat) (b : Blk), ((sealM m ns).take C.G)[n]? = some b → b.own = false := fun n b hn => by
                    rw [hsame] at hn
                    exact (hall n b hn).1
                  have R1 := cut_rep S.rep C.G hin
                  have hG1 : GlobOK C ((ι.freeze (Spots ι m ns) w).cut C.G) := by
                    intro n hn
                    obtain ⟨l, q1, q2⟩ := hG n hn
                    exact ⟨l, by simp only [Emb.cut]; rw [if_pos hn]; exact q1, q2⟩
                  have hfree : Free ((ι.freeze (Spots ι m ns) w).cut C.G) ((sealM m ns).take C.G).length m2.length := by
                    intro n h1 _
                    simp only [List.length_take, seal_len] at h1
                    simp only [Emb.cut]
                    rw [if_neg (by omega)]
                  rw [← hsame] at hrun
                  refine (body_calls H hg hb (by have := (mapF_len has); omega) hrun B _ w args' R1 hG1 hB (las.mono (show (ι.freeze (Spots ι m ns) w).bare.le ((ι.freeze (Spots ι m ns) w).cut C.G) from ⟨fun _ _ e => by simp [Emb.bare] at e, fun _ _ e => e⟩)) hfree).mono ?_
                  rintro e w' ⟨v', ι1, rfl, A, r⟩
                  have A2 := After.still S.rep hown A ns2
                  refine ⟨v', _, rfl, S.trans A2, ?_⟩
                  have := frz_sound (ι' := ι1.freeze (Spots ι1 m2 ns2) w') A.rep (freeze_le A.rep ns2).fz 64 v0 v' _ ns2 hvf (freeze_iced A.rep ns2) r
                  exact this.mono (show (ι1.freeze (Spots ι1 m2 ns2) w').bare.le { (ι.freeze (Spots ι m ns) w) with fz := (ι1.freeze (Spots ι1 m2 ns2) w').fz } from ⟨fun _ _ e => by simp [Emb.bare] at e, fun _ _ e => e⟩)
                · cases h
              · cases h
            · cases h
          · cases h
        · obtain ⟨h1, _⟩ := H _ _ _ _ _ _ h
          exact ⟨h1, ⟨g, hg, hcond.2, by rw [hb]; rfl⟩, fun B ι w args' R hG hB hargs hF => body_calls H hg hb hcond.1 h B ι w args' R hG hB hargs hF⟩
      · cases h

variable (hC : CfgOK C)
include hC

theorem ends : ∀ k, Ends C k := by
  intro k
  induction k with
  | zero => intro fn todo T m v m' h; simp [run] at h
  | succ k ih =>
    intro fn todo T m v m' h
    -- the end of a body
    have fin : (resultA C fn m T).map (fun v => (v, m)) = some (v, m') → m' = m ∧ ∀ (B : Nat) (ι : Emb) (w : World) (a : Act) (b : Frame) (cs : List Frame) (fr : Frame), Rep B ι m w → TR ι T a.tmps → a.defers = [] → Steps C.P (lone (b.at a todo) cs w) (lone fr cs w) →
        fr.fn = b.fn → fr.kind = b.kind → fr.mode = .returning → fr.defers = a.defers → fr.tmps = a.tmps →
        ∃ w' fr ι' v', Steps C.P (lone (b.at a todo) cs w) (lone fr cs w') ∧ fr.fn = b.fn ∧ fr.kind = b.kind ∧ fr.mode = .returning ∧ fr.defers = [] ∧ (results fn fr.tmps).run C.P w' = .ok v' w' ∧ After B ι m w ι' m' w' ∧ VR ι' v v' := by
      intro hr
      cases hra : resultA C fn m T with
      | none => rw [hra] at hr; cases hr
      | some u =>
        rw [hra] at hr
        cases hr
        refine ⟨rfl, fun B ι w a b cs fr R hT hd hs e1 e2 e3 e4 e5 => ?_⟩
        obtain ⟨v', r, hv⟩ := resultA_sound hC R hT hra
        exact ⟨w, fr, ι, v', hs, e1, e2, e3, e4.trans hd, by rw [e5]; exact hv, After.refl R, r⟩
    -- a step that changes nothing
    have go : ∀ todo', run C k fn todo' T m = some (v, m') → (∀ (B : Nat) (ι : Emb) (w : World) (a : Act) (b : Frame) (cs : List Frame), TR ι T a.tmps → GlobOK C ι → step C.P (lone (b.at a todo) cs w) = .next (lone (b.at a todo') cs w)) →
        Grow m m' ∧ ∀ (B : Nat) (ι : Emb) (w : World) (a : Act) (b : Frame) (cs : List Frame), Rep B ι m w → GlobOK C ι → B ≤ w.heap.size → TR ι T a.tmps → Free ι m.length m'.length → fn.ntmps ≤ a.tmps.size → a.defers = [] →
          ∃ w' fr ι' v', Steps C.P (lone (b.at a todo) cs w) (lone fr cs w') ∧ fr.fn = b.fn ∧ fr.kind = b.kind ∧ fr.mode = .returning ∧ fr.defers = [] ∧ (results fn fr.tmps).run C.P w' = .ok v' w' ∧ After B ι m w ι' m' w' ∧ VR ι' v v' := by
      intro todo' hr hst
      obtain ⟨g1, g2⟩ := ih _ _ _ _ _ _ hr
      refine ⟨g1, fun B ι w a b cs R hG hB hT hF hN hd => ?_⟩
      obtain ⟨w', fr, ι', v', q1, rest⟩ := g2 B ι w a b cs R hG hB hT hF hN hd
      exact ⟨w', fr, ι', v', .head (hst B ι w a b cs hT hG) q1, rest⟩
    unfold run at h
    split at h
    · obtain ⟨e, hf⟩ := fin h
      subst e
      exact ⟨.refl _, fun B ι w a b cs R hG hB hT hF hN hd => hf B ι w a b cs _ R hT hd (.one step_end) rfl rfl rfl rfl rfl⟩
    · exact go _ h fun _ _ _ _ _ _ _ _ => step_inBlock
    · exact go _ h fun _ _ _ _ _ _ _ _ => step_inLoop
    · split at h
      · exact go _ h fun _ _ _ _ _ _ _ _ => step_skip
      · obtain ⟨e, hf⟩ := fin h
        subst e
        exact ⟨.refl _, fun B ι w a b cs R hG hB hT hF hN hd => hf B ι w a b cs _ R hT hd (.one step_ret) rfl rfl rfl rfl rfl⟩
      · exact go _ h fun _ _ _ _ _ _ _ _ => step_seq
      · exact go _ h fun _ _ _ _ _ _ _ _ => step_block
      · exact go _ h fun _ _ _ _ _ _ _ _ => step_loop
      · split at h
        · rename_i rest' he
          exact go _ h fun _ _ _ _ _ _ _ _ => step_exit he
        · cases h
      · split at h
        · rename_i hc
          refine go _ h fun B ι w a b cs hT hG => ?_
          have r := ev_sound (a := a) hT hG hc
          generalize hx : a.eval _ = x at r
          cases r
          exact step_cond (t := true) hx
        · rename_i hc
          refine go _ h fun B ι w a b cs hT hG => ?_
          have r := ev_sound (a := a) hT hG hc
          generalize hx : a.eval _ = x at r
          cases r
          exact step_cond (t := false) hx
        · cases h
      · rename_i id ops draw
        have hcall := call_of_ends ih
        split at h
        · rename_i T1 m1 hreg
          have hgr : Grow m m1 := by
            have hreg' := hreg
            unfold aRegion at hreg'
            split at hreg'
            · split at hreg'
              · cases hreg'
              · rename_i E T2 m2 ha
                have := aOps_grows (call_grow hcall) ha
                split at hreg'
                · split at hreg'
                  · cases hreg'; exact this
                  · cases hreg'
                · cases hreg'; exact this
            · cases hreg'
          obtain ⟨g1, g2⟩ := ih _ _ _ _ _ _ h
          refine ⟨hgr.trans g1, fun B ι w a b cs R hG hB hT hF hN hd => ?_⟩
          have hF1 : Free ι m.length m1.length := fun n h1 h2 => hF n h1 (Nat.lt_of_lt_of_le h2 g1.len)
          have hreg2 := region_goes hC hcall hreg R hB hT hG hF1 hN id (fun e a' w' => e = .normal ∧ Behind B ι m w a T1 m1 a' w') (fun a' w' hb => ⟨rfl, hb⟩)
          obtain ⟨e, a', w1, ⟨rfl, ι1, A, hT1, hd1, hs1⟩, harr⟩ := hreg2 b _ cs
          obtain ⟨w', fr, ι', v', q1, q2, q3, q4, q5, q6, q7, q8⟩ := g2 B ι1 w1 a' b cs A.rep (hG.mono (A.le hF1)) (Nat.le_trans hB A.size) hT1 (fun n h1 h2 => by
            rw [A.keep n (.inr h1)]
            exact hF n (Nat.le_trans hgr.len h1) h2) (by rw [hs1]; exact hN) (hd1.trans hd)
          exact ⟨w', fr, ι', v', Steps.trans harr q1, q2, q3, q4, q5, q6, A.trans q7, q8⟩
        · cases h
      · cases h
    · cases h

/-- A call of the evaluator is a call of the machine. -/
theorem callA_ok (k : Nat) : CallOK C (callA C k) := call_of_ends (ends hC k)
end
end Go.Ab
