/- What the functions of the program answer, for all arguments that the theorems name as conditions. -/
import Derived.Test.YtnmjgjedkdmefaaS4H2a
namespace Go.Ab
set_option linter.unusedSimpArgs false
set_option linter.unusedVariables false
set_option maxHeartbeats 4000000

/-! ## Bytes and lists of bytes -/
abbrev eU8' : Enc Int := eI .u8
def eBS : Enc (List Int) := ⟨1, fun l => [frS eU8' l], Nat.one_pos, fun _ => rfl, fun _ => rfl⟩
@[simp] theorem eBS_f (l : List Int) : eBS.f l = [frS eU8' l] := (rfl)
@[simp] theorem eBS_sz : eBS.sz = 1 := (rfl)
theorem s_szByteS (l : List Int) (left : Int) (hl : l.length ≤ 9223372036854775807) (h0 : 0 ≤ left) (h1 : left ≤ 1048576) : X_laws_szByteS [frS eU8' l, .int .i64 left] [] = some (.int .i64 (szN l.length left), []) := by
  have hw : IntKind.i64.wrap (left - l.length) = left - l.length := wrap_i64 (by omega) (by omega)
  simp +contextual -implicitDefEqProofs [X_laws_szByteS, retK_eq, hw]
  unfold szN
  split <;> rfl
def szSS : List (List Int) → Int → Int
  | [], left => left
  | x :: r, left => if szN x.length left < 0 then -1 else szSS r (szN x.length left)
theorem szSS_le : ∀ (r : List (List Int)) {x : Int}, x ≤ 1048576 → szSS r x ≤ 1048576
  | [], x, h => h
  | y :: r, x, h => by
    unfold szSS
    split
    · omega
    · exact szSS_le r (szN_le h)
theorem szSS_small : ∀ (r : List (List Int)) {x : Int}, x ≤ 1048576 → ¬ szSS r x < 0 → ∀ y ∈ r, y.length < 1000000000
  | [], x, h, h1 => fun y hy => by cases hy
  | z :: r, x, h, h1 => by
    unfold szSS at h1
    split at h1
    · omega
    · rename_i h2
      intro y hy
      rw [List.mem_cons] at hy
      rcases hy with rfl | hy
      · exact szN_small (x := x) h (by omega)
      · exact szSS_small r (szN_le h) h1 y hy
theorem l_szByteSS (r : List (List Int)) : ∀ (p : List (List Int)) (q : Nat) (left : Int), r.length < q → (p ++ r).length < 1000000000 → (∀ x ∈ r, x.length ≤ 9223372036854775807) → 0 ≤ left → left ≤ 1048576 → L_laws_szByteSS 0 q 0 [frS eBS (p ++ r), .int .i64 left, .int .i64 p.length] [] = some (.int .i64 (szSS r left), []) := by
  induction r with
  | nil =>
    intro p q left hq hl hr h0 h1
    obtain ⟨q, rfl⟩ : ∃ n, q = n + 1 := ⟨q - 1, by omega⟩
    simp +contextual -implicitDefEqProofs [L_laws_szByteSS, retK_eq, szSS]
  | cons x r ih =>
    intro p q left hq hl hr h0 h1
    obtain ⟨q, rfl⟩ : ∃ n, q = n + 1 := ⟨q - 1, by omega⟩
    have c1 := s_szByteS x left (hr x (by simp)) h0 h1
    have hx := ixa_mid eBS (sz := 1) rfl .i64 p x r
    have hw := wrap_next (n := p.length) (by simp at hl; omega)
    by_cases hn : szN x.length left < 0
    · simp +contextual -implicitDefEqProofs [L_laws_szByteSS, retK_eq, cutK_eq, hx, hw, c1, hn, szSS]
    · have h := ih (p ++ [x]) q (szN x.length left) (by simp at hq; omega) (by simpa using hl) (fun y hy => hr y (by simp [hy])) (by omega) (szN_le h1)
      simp at h
      simp +contextual -implicitDefEqProofs [L_laws_szByteSS, retK_eq, cutK_eq, hx, hw, c1, hn, h, szSS]
def szBS (l : List (List Int)) (left : Int) : Int := if szN l.length left < 0 then -1 else szSS l (szN l.length left)
theorem s_szByteSS (l : List (List Int)) (left : Int) (hl : l.length ≤ 9223372036854775807) (hr : ∀ x ∈ l, x.length ≤ 9223372036854775807) (h0 : 0 ≤ left) (h1 : left ≤ 1048576) : X_laws_szByteSS [frS eBS l, .int .i64 left] [] = some (.int .i64 (szBS l left), []) := by
  have hw : IntKind.i64.wrap (left - l.length) = left - l.length := wrap_i64 (by omega) (by omega)
  by_cases hn : left - l.length < 0
  · have : szN l.length left = -1 := if_pos hn
    simp +contextual -implicitDefEqProofs [X_laws_szByteSS, retK_eq, cutK_eq, hw, hn, szBS, this]
  · have e : szN l.length left = left - l.length := if_neg hn
    have h := l_szByteSS l [] QQ (left - l.length) (by unfold QQ; omega) (by simp; omega) hr (by omega) (by omega)
    simp at h
    simp +contextual -implicitDefEqProofs [X_laws_szByteSS, retK_eq, cutK_eq, hw, hn, szBS, e, h]
theorem szBS_small {l : List (List Int)} {x : Int} (hx : x ≤ 1048576) (h : ¬ szBS l x < 0) : l.length < 1000000000 ∧ ∀ y ∈ l, y.length < 1000000000 := by
  unfold szBS at h
  split at h
  · omega
  · rename_i h1
    exact ⟨szN_small (x := x) hx (by omega), szSS_small l (szN_le hx) h⟩
theorem szBS_le {l : List (List Int)} {x : Int} (hx : x ≤ 1048576) : szBS l x ≤ 1048576 := by
  unfold szBS
  split
  · omega
  · exact szSS_le l (szN_le hx)

theorem l_toByteS (r : List Int) : ∀ (p : List Int) (q n : Nat), r.length < q → n = (p ++ r).length → n < 1000000000 → L_laws_toByteS 0 q 0 [frS eU8' (p ++ r), .slice (some ⟨0, 0, none⟩) n n, .int .i64 p.length] [ownB eU8' (p ++ List.replicate r.length 0)] = some (.slice (some ⟨0, 0, none⟩) n n, [ownB eU8' (p ++ r)]) := by
  induction r with
  | nil =>
    intro p q n hq hn hl
    obtain ⟨q, rfl⟩ : ∃ n, q = n + 1 := ⟨q - 1, by omega⟩
    simp -implicitDefEqProofs [L_laws_toByteS, retK_eq]
  | cons x r ih =>
    intro p q n hq hn hl
    obtain ⟨q, rfl⟩ : ∃ n, q = n + 1 := ⟨q - 1, by omega⟩
    have h := ih (p ++ [x]) q n (by simp at hq; omega) (by simpa using hn) hl
    simp at h
    have hx := ixa_mid eU8' (sz := 1) rfl .i64 p x r
    have hw := wrap_next (n := p.length) (by simp at hn; omega)
    have hn' : n = p.length + (r.length + 1) := by simpa using hn
    subst hn'
    have hy := lay_mid eU8' p 0 (List.replicate r.length 0) x
    simp at hy
    simp +contextual -implicitDefEqProofs [L_laws_toByteS, retK_eq, cutK_eq, hx, hw, h, List.replicate_succ, hy]
theorem s_toByteS (l : List Int) (hl : l.length < 1000000000) : X_laws_toByteS [frS eU8' l] [] = some (slO 0 l.length, [ownB eU8' l]) := by
  have h := l_toByteS l [] QQ l.length (by unfold QQ; omega) rfl hl
  simp at h
  simp +contextual -implicitDefEqProofs [X_laws_toByteS, cutK_eq, retK_eq, h, hl]
theorem l_toByteSS (r : List (List Int)) : ∀ (p : List (List Int)) (q n : Nat), r.length < q → n = (p ++ r).length → n < 1000000000 → (∀ x ∈ r, x.length < 1000000000) → L_laws_toByteSS 0 q 0 [frS eBS (p ++ r), .slice (some ⟨0, 0, none⟩) n n, .int .i64 p.length] [⟨cellsE eBS p ++ List.replicate r.length (.slice none 0 0), 1, true, true⟩] = some (.slice (some ⟨0, 0, none⟩) n n, [ownB eBS (p ++ r)]) := by
  induction r with
  | nil =>
    intro p q n hq hn hl hr
    obtain ⟨q, rfl⟩ : ∃ n, q = n + 1 := ⟨q - 1, by omega⟩
    simp -implicitDefEqProofs [L_laws_toByteSS, retK_eq]
  | cons x r ih =>
    intro p q n hq hn hl hr
    obtain ⟨q, rfl⟩ : ∃ n, q = n + 1 := ⟨q - 1, by omega⟩
    have h := ih (p ++ [x]) q n (by simp at hq; omega) (by simpa using hn) hl (fun y hy => hr y (by simp [hy]))
    rw [cellsE_append, cellsE_cons, cellsE_nil] at h
    simp at h
    have c1 := s_toByteS x (hr x (by simp))
    have hx := ixa_mid eBS (sz := 1) rfl .i64 p x r
    have hw := wrap_next (n := p.length) (by simp at hn; omega)
    have hn' : n = p.length + (r.length + 1) := by simpa using hn
    subst hn'
    have hy : lay (cellsE eBS p ++ Value.slice none 0 0 :: List.replicate r.length (Value.slice none 0 0)) p.length [frS eU8' x] = cellsE eBS p ++ frS eU8' x :: List.replicate r.length (Value.slice none 0 0) := by
      have := lay_app (cellsE eBS p) (Value.slice none 0 0 :: List.replicate r.length (Value.slice none 0 0)) 0 [frS eU8' x]
      simp at this
      exact this.trans (by simp [lay, lay_nil])
    simp +contextual -implicitDefEqProofs [L_laws_toByteSS, retK_eq, cutK_eq, hx, hw, h, c1, List.replicate_succ, hy]
theorem s_toByteSS (l : List (List Int)) (hl : l.length < 1000000000) (hr : ∀ x ∈ l, x.length < 1000000000) : X_laws_toByteSS [frS eBS l] [] = some (slO 0 l.length, [ownB eBS l]) := by
  have h := l_toByteSS l [] QQ l.length (by unfold QQ; omega) rfl hl hr
  rw [cellsE_nil] at h
  simp at h
  simp +contextual -implicitDefEqProofs [X_laws_toByteSS, cutK_eq, retK_eq, h, hl]
theorem l_eqByteS (r : List Int) : ∀ (p : List Int) (q : Nat), r.length < q → (p ++ r).length < 1000000000 → L_laws_eqByteS 0 q 0 [frS eU8' (p ++ r), frS eU8' (p ++ r), .int .i64 p.length] [] = some (.bool true, []) := by
  induction r with
  | nil =>
    intro p q hq hl
    obtain ⟨q, rfl⟩ : ∃ n, q = n + 1 := ⟨q - 1, by omega⟩
    simp +contextual -implicitDefEqProofs [L_laws_eqByteS, retK_eq]
  | cons x r ih =>
    intro p q hq hl
    obtain ⟨q, rfl⟩ : ∃ n, q = n + 1 := ⟨q - 1, by omega⟩
    have h := ih (p ++ [x]) q (by simp at hq; omega) (by simpa using hl)
    simp at h
    have hx := ixa_mid eU8' (sz := 1) rfl .i64 p x r
    have hw := wrap_next (n := p.length) (by simp at hl; omega)
    simp +contextual -implicitDefEqProofs [L_laws_eqByteS, retK_eq, cutK_eq, hx, hw, h]
theorem s_eqByteS (a : List Int) (ha : a.length < 1000000000) : X_laws_eqByteS [frS eU8' a, frS eU8' a] [] = some (.bool true, []) := by
  have h2 := l_eqByteS a [] QQ (by unfold QQ; omega) (by simpa using ha)
  simp at h2
  simp +contextual -implicitDefEqProofs [X_laws_eqByteS, cutK_eq, retK_eq, h2]
theorem l_eqByteSS (r : List (List Int)) : ∀ (p : List (List Int)) (q : Nat), r.length < q → (p ++ r).length < 1000000000 → (∀ x ∈ r, x.length < 1000000000) → L_laws_eqByteSS 0 q 0 [frS eBS (p ++ r), frS eBS (p ++ r), .int .i64 p.length] [] = some (.bool true, []) := by
  induction r with
  | nil =>
    intro p q hq hl hr
    obtain ⟨q, rfl⟩ : ∃ n, q = n + 1 := ⟨q - 1, by omega⟩
    simp +contextual -implicitDefEqProofs [L_laws_eqByteSS, retK_eq]
  | cons x r ih =>
    intro p q hq hl hr
    obtain ⟨q, rfl⟩ : ∃ n, q = n + 1 := ⟨q - 1, by omega⟩
    have h := ih (p ++ [x]) q (by simp at hq; omega) (by simpa using hl) (fun y hy => hr y (by simp [hy]))
    simp at h
    have c1 := s_eqByteS x (hr x (by simp))
    have hx := ixa_mid eBS (sz := 1) rfl .i64 p x r
    have hw := wrap_next (n := p.length) (by simp at hl; omega)
    simp +contextual -implicitDefEqProofs [L_laws_eqByteSS, retK_eq, cutK_eq, hx, hw, c1, h]
theorem s_eqByteSS (a : List (List Int)) (ha : a.length < 1000000000) (hr : ∀ x ∈ a, x.length < 1000000000) : X_laws_eqByteSS [frS eBS a, frS eBS a] [] = some (.bool true, []) := by
  have h2 := l_eqByteSS a [] QQ (by unfold QQ; omega) (by simpa using ha) hr
  simp at h2
  simp +contextual -implicitDefEqProofs [X_laws_eqByteSS, cutK_eq, retK_eq, h2]

/-! ## Ways, lines, consoles -/
structure WayT where
  a : Int
  b : Int
  c : Int
  d : Int
  e : Int
  f : Int
  g : Int
abbrev wayT (w : WayT) (rest : List Value) : List Value := .int .i64 w.a :: .int .i64 w.b :: .int .i64 w.c :: .int .i64 w.d :: .int .i64 w.e :: .int .i64 w.f :: .int .i64 w.g :: rest
abbrev wayV (w : WayT) : Value := .agg (wayT w []).toArray
abbrev wayP (w : WayT) (rest : List Value) : Value := roP (wayT w rest)
def wayL (w : WayT) : List Int := [w.a, w.b, w.c, w.d, w.e, w.f, w.g]
theorem wayL_len (w : WayT) : (wayL w).length = 7 := rfl
structure LnT where
  rows : List (List Int)
  cur : List Int
  t : Bool
  n : Int
abbrev lnT (l : LnT) (rest : List Value) : List Value := frS eBS l.rows :: frS eU8' l.cur :: .bool l.t :: .int .i64 l.n :: rest
abbrev lnV (l : LnT) : Value := .agg (lnT l []).toArray
abbrev lnP (l : LnT) (rest : List Value) : Value := roP (lnT l rest)
def LnT.fit (l : LnT) : Prop := l.rows.length ≤ 9223372036854775807 ∧ (∀ x ∈ l.rows, x.length ≤ 9223372036854775807) ∧ l.cur.length ≤ 9223372036854775807
def LnT.small (l : LnT) : Prop := l.rows.length < 1000000000 ∧ (∀ x ∈ l.rows, x.length < 1000000000) ∧ l.cur.length < 1000000000
theorem s_toWay (w : WayT) : X_laws_toWay [wayV w] [] = some (wayV w, []) := by
  simp (maxSteps := 2000000) +contextual -implicitDefEqProofs [X_laws_toWay, retK_eq]
theorem s_eqWay (w : WayT) : X_laws_eqWay [wayV w, wayV w] [] = some (.bool true, []) := by
  simp (maxSteps := 2000000) +contextual -implicitDefEqProofs [X_laws_eqWay, retK_eq]
theorem s_toLine (l : LnT) (hl : l.small) : X_laws_toLine [lnV l] [] = some (lnV l, []) := by
  have c1 := s_toByteSS l.rows hl.1 hl.2.1
  have c2 := s_toByteS l.cur hl.2.2
  simp (maxSteps := 2000000) +contextual -implicitDefEqProofs [X_laws_toLine, retK_eq, c1, c2]
theorem s_eqLine (l : LnT) (hl : l.small) : X_laws_eqLine [lnV l, lnV l] [] = some (.bool true, []) := by
  have c1 := s_eqByteSS l.rows hl.1 hl.2.1
  have c2 := s_eqByteS l.cur hl.2.2
  simp (maxSteps := 2000000) +contextual -implicitDefEqProofs [X_laws_eqLine, retK_eq, c1, c2]
def LnT.szl (l : LnT) (left : Int) : Int := if szBS l.rows left < 0 then -1 else szN l.cur.length (szBS l.rows left)
theorem s_szLine (l : LnT) (left : Int) (hl : l.fit) (h0 : 0 ≤ left) (h1 : left ≤ 1048576) : X_laws_szLine [lnV l, .int .i64 left] [] = some (.int .i64 (l.szl left), []) := by
  have c1 := s_szByteSS l.rows left hl.1 hl.2.1 h0 h1
  by_cases e1 : szBS l.rows left < 0
  · simp +contextual -implicitDefEqProofs [X_laws_szLine, retK_eq, c1, e1, LnT.szl]
  · have c2 := s_szByteS l.cur (szBS l.rows left) hl.2.2 (by omega) (szBS_le h1)
    have : szN l.cur.length (szBS l.rows left) < 0 → szN l.cur.length (szBS l.rows left) = -1 := by unfold szN; split <;> omega
    by_cases e2 : szN l.cur.length (szBS l.rows left) < 0 <;> simp +contextual -implicitDefEqProofs [X_laws_szLine, retK_eq, c1, c2, e1, e2, LnT.szl, this]
theorem szl_ln {l : LnT} {x : Int} (hx : x ≤ 1048576) (h : ¬ l.szl x < 0) : l.small := by
  unfold LnT.szl at h
  split at h
  · omega
  · rename_i h1
    exact ⟨(szBS_small hx h1).1, (szBS_small hx h1).2, szN_small (x := szBS l.rows x) (szBS_le hx) (by omega)⟩
end Go.Ab
