/- What the functions of the program answer, for all arguments that the theorems name as conditions. -/
import Derived.Test.YtkfbpdbopkdnjaaS3R6
namespace Go.Ab
set_option linter.unusedSimpArgs false
set_option linter.unusedVariables false
set_option maxHeartbeats 8000000

abbrev memAE (k : Nat) (l : List EvT) : Mem := famB k 13 (l.map elE) :: famM eU8 (l.map elE)
theorem memE_0 (l : List EvT) : memE l 0 = memAE 1 l := by
  unfold memE
  rw [List.replicate_zero, List.append_nil]
theorem flat_evZ (n : Nat) : (List.replicate n evZ).flatten = famX 1 (List.replicate n elZE) := (famX_ZErep 1 n).symm
theorem s_toEventS (l : List EvT) (hl : l.length < 1100000) (hb : ∀ x ∈ l, x.d.length < 1000000000) : X_laws_toEventS [frS eEv l] [] = some (slO 0 l.length, memAE 1 l) := by
  have h := l_toEventS l [] QQ l.length (by unfold QQ; omega) rfl hl hb
  have hcut := fun pv J => cut0_fam eU8 (s := 13) (n := l.length) (c := l.length) (es := [].map elE ++ List.replicate l.length elZE) (xs := [frS eEv l]) (ys := [.int .i64 0]) (pv := pv) (J := J) rfl rfl (ok_E [] l.length) (by rw [N_E]; simp)
  rw [memE_0] at h
  simp only [memE, famB, List.map_nil, List.nil_append, famX_ZErep, famM_ZE, List.singleton_append, List.length_nil, Int.natCast_zero] at h hcut
  generalize memAE 1 l = M at *
  simp (maxSteps := 400000) -implicitDefEqProofs [X_laws_toEventS, hcut, hl, show l.length < 1000000000 by omega]
  exact h
theorem ok_AE (l : List EvT) : ∀ e ∈ l.map elE, e.ok eU8 := by
  have := ok_E l 0
  rwa [List.replicate_zero, List.append_nil] at this
theorem okH_AE (l : List EvT) : ∀ e ∈ l.map elE, e.okH := by
  intro e he
  obtain ⟨x, _, rfl⟩ := List.mem_map.1 he
  exact ⟨rfl, rfl⟩
theorem fro_AE (l : List EvT) : roS (l.map elE).length ((l.map elE).flatMap (El.fro eU8)) = frS eEv l := by
  rw [List.length_map]
  unfold frS
  congr 1
  induction l with
  | nil => rfl
  | cons x r ih => rw [List.map_cons, List.flatMap_cons, ih]; rfl
theorem fz_AE (k c : Nat) (A B : Mem) (l : List EvT) : fz (k + 3) (A ++ (famB (A.length + 1) 13 (l.map elE) :: (famM eU8 (l.map elE) ++ B))) (.slice (some ⟨A.length, 0, none⟩) l.length c) = some (frS eEv l) := by
  have := fz_all eU8 (k := k) (s := 13) (c := c) A B (l.map elE) (ok_AE l) (fun e he => by
    obtain ⟨x, _, rfl⟩ := List.mem_map.1 he
    rfl)
  rw [fro_AE, List.length_map] at this
  exact this
theorem f_toEventS (l : List EvT) (hl : l.length < 1100000) (hb : ∀ x ∈ l, x.d.length < 1000000000) (m : Mem) : fcall X_laws_toEventS [frS eEv l] m = some (slO m.length l.length, m ++ memAE (m.length + 1) l) :=
  fcall_fam eU8 eU8_hard (by rfl) (s_toEventS l hl hb) (ok_AE l) (okH_AE l)

/-! ## Marks in events -/
def markE (t : Int) (e : EvT) : EvT := ⟨t, t + 1, t + 1 + 1, (t + 1 + 1 + 1).tmod 3 == 0, markB (t + 1 + 1 + 1 + 1) e.d.length, t + 1 + 1 + 1 + 1 + e.d.length, t + 1 + 1 + 1 + 1 + e.d.length + 1, t + 1 + 1 + 1 + 1 + e.d.length + 1 + 1, t + 1 + 1 + 1 + 1 + e.d.length + 1 + 1 + 1, t + 1 + 1 + 1 + 1 + e.d.length + 1 + 1 + 1 + 1, t + 1 + 1 + 1 + 1 + e.d.length + 1 + 1 + 1 + 1 + 1, t + 1 + 1 + 1 + 1 + e.d.length + 1 + 1 + 1 + 1 + 1 + 1, t + 1 + 1 + 1 + 1 + e.d.length + 1 + 1 + 1 + 1 + 1 + 1 + 1⟩
def upE (t : Int) (e : EvT) : Int := t + 1 + 1 + 1 + 1 + e.d.length + 1 + 1 + 1 + 1 + 1 + 1 + 1 + 1
def markES (t : Int) : List EvT → List EvT
  | [] => []
  | x :: r => markE t x :: markES (upE t x) r
def upES (t : Int) : List EvT → Int
  | [] => t
  | x :: r => upES (upE t x) r
theorem markES_len (t : Int) (l : List EvT) : (markES t l).length = l.length := by
  induction l generalizing t with
  | nil => rfl
  | cons x r ih => rw [markES, List.length_cons, List.length_cons, ih]
theorem upES_le (t : Int) (l : List EvT) : t ≤ upES t l := by
  induction l generalizing t with
  | nil => exact Int.le_refl _
  | cons x r ih =>
    have := ih (upE t x)
    rw [upES]
    unfold upE at *
    omega
theorem cells_E (p : List EvT) (x : EvT) (r : List EvT) : famX 1 ((p ++ x :: r).map elE) = famX 1 (p.map elE) ++ (evC (p.length + 1) x ++ famX (p.length + 2) (r.map elE)) := by
  rw [List.map_append, famX_app, elE_N, List.map_cons, famX_E, Nat.add_comm 1 p.length]
theorem mem_E (p : List EvT) (x : EvT) (r : List EvT) : famM eU8 ((p ++ x :: r).map elE) = famM eU8 (p.map elE) ++ (ownB eU8 x.d :: famM eU8 (r.map elE)) := by
  rw [List.map_append, famM_app, show (x :: r).map elE = [x].map elE ++ r.map elE from rfl, famM_app, famM_E1]
  rfl
theorem lay_ix (L R : List Value) (a j : Nat) (v : List Value) (h : L.length = a) : lay (L ++ R) (a + j) v = L ++ lay R j v := by
  subst h
  induction L with
  | nil => simp
  | cons b L ih =>
    cases v with
    | nil => cases R <;> simp [lay, lay_nil]
    | cons c v =>
      rw [List.length_cons, show L.length + 1 + j = (L.length + j) + 1 by omega]
      simp only [List.cons_append, lay]
      rw [ih]
theorem get_ix (L R : List Value) (a j : Nat) (h : L.length = a) : (L ++ R)[a + j]? = R[j]? := by
  subst h
  rw [List.getElem?_append_right (by omega), Nat.add_sub_cancel_left]
end Go.Ab
