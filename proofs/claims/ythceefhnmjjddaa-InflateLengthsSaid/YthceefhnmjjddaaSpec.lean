/-
  What is packed in a text, in plain words: bits, numbers, code words, blocks. No program is in sight.
-/
namespace Go.Proofs.Ythceefhnmjjddaa

/-- The I-th bit of a text, from the lowest of each byte on. -/
def bitAt (T : List UInt8) (I : Nat) : Nat := (T.getD (I / 8) 0).toNat / 2 ^ (I % 8) % 2
theorem bitAt_lt (T : List UInt8) (I : Nat) : bitAt T I < 2 := Nat.mod_lt _ (by omega)

/-- The next bit; the state: ere the I-th bit, or none: behind a fault. -/
def bitS (T : List UInt8) : Option Nat → Nat × Option Nat
  | some I => if I < 8 * T.length then (bitAt T I, some (I + 1)) else (0, none)
  | none => (0, none)
theorem bitS_lt (T : List UInt8) (s : Option Nat) : (bitS T s).1 < 2 := by
  unfold bitS
  split
  · split
    · exact bitAt_lt _ _
    · decide
  · decide

/-- So many bits, the lowest first. -/
def numS (T : List UInt8) (s : Option Nat) : Nat → Nat × Option Nat
  | 0 => (0, s)
  | n + 1 => ((numS T s n).1 + (bitS T (numS T s n).2).1 * 2 ^ n, (bitS T (numS T s n).2).2)
theorem numS_lt (T : List UInt8) (s : Option Nat) (n : Nat) : (numS T s n).1 < 2 ^ n := by
  induction n with
  | zero => simp [numS]
  | succ n ih =>
    have h2 := bitS_lt T (numS T s n).2
    show (numS T s n).1 + (bitS T (numS T s n).2).1 * 2 ^ n < 2 ^ (n + 1)
    have h3 : (bitS T (numS T s n).2).1 * 2 ^ n ≤ 1 * 2 ^ n := Nat.mul_le_mul_right _ (by omega)
    rw [Nat.pow_succ]
    omega
theorem numS_none (T : List UInt8) (n : Nat) : (numS T none n) = (0, none) := by
  induction n with
  | zero => rfl
  | succ n ih => simp [numS, ih, bitS]
theorem numS_state (T : List UInt8) (I n : Nat) : (numS T (some I) n).2 = if I + n ≤ 8 * T.length ∨ n = 0 then some (I + n) else none := by
  induction n with
  | zero => simp [numS]
  | succ n ih =>
    show (bitS T (numS T (some I) n).2).2 = _
    rw [ih]
    by_cases h : I + n ≤ 8 * T.length ∨ n = 0
    · rw [if_pos h]
      by_cases h2 : I + n < 8 * T.length
      · rw [if_pos (by omega)]; simp [bitS, h2]; omega
      · rw [if_neg (by omega)]; simp [bitS, h2]
    · rw [if_neg h, if_neg (by omega)]; rfl
theorem numS_le (T : List UInt8) (I n I' : Nat) (h : (numS T (some I) n).2 = some I') (hI : I ≤ 8 * T.length) : I' = I + n ∧ I' ≤ 8 * T.length := by
  rw [numS_state] at h
  split at h
  · injection h with h; omega
  · cases h
theorem numS_dead (T : List UInt8) (s : Option Nat) (n : Nat) (h : (numS T s n).2 ≠ none) : s ≠ none := by
  rintro rfl
  rw [numS_none] at h
  exact h rfl

/-- Behind the last code word of length n. -/
def beh (L : List Nat) : Nat → Nat
  | 0 => 0
  | n + 1 => 2 * beh L n + L.count (n + 1)
/-- Who has a code word of length n, of those from i on. -/
def idxF : List Nat → Nat → Nat → List Nat
  | [], _, _ => []
  | m :: L, i, n => if m = n then i :: idxF L (i + 1) n else idxF L (i + 1) n
def idxs (L : List Nat) (n : Nat) : List Nat := idxF L 0 n
theorem idxF_length (L : List Nat) (n : Nat) : ∀ i, (idxF L i n).length = L.count n := by
  induction L with
  | nil => intro i; rfl
  | cons m L ih =>
    intro i
    unfold idxF
    by_cases h : m = n
    · simp [h, ih]
    · simp [h, ih]
theorem idxs_length (L : List Nat) (n : Nat) : (idxs L n).length = L.count n := idxF_length L n 0
theorem idxF_lt (L : List Nat) (n : Nat) : ∀ i, ∀ x ∈ idxF L i n, i ≤ x ∧ x < i + L.length := by
  induction L with
  | nil => intro i x h; simp [idxF] at h
  | cons m L ih =>
    intro i x h
    unfold idxF at h
    simp only [List.length_cons]
    split at h
    · rcases List.mem_cons.1 h with rfl | h
      · omega
      · have := ih (i + 1) x h; omega
    · have := ih (i + 1) x h; omega
/-- The signs by their code words, of the lengths up to n. -/
def sgs (L : List Nat) : Nat → List Nat
  | 0 => []
  | n + 1 => sgs L n ++ idxs L (n + 1)
def used (L : List Nat) : Nat := L.length - L.count 0
def fits (L : List Nat) : Nat → Bool
  | 0 => true
  | n + 1 => fits L n && decide (beh L (n + 1) ≤ 2 ^ (n + 1))
/-- No more code words than there are; fewer only if there is one of length 1, or none. -/
def right (L : List Nat) : Bool := fits L 15 && (decide (beh L 15 = 2 ^ 15) || decide (used L = 0) || (decide (used L = 1) && decide (L.count 1 = 1)))

/-- The sign whose code word comes; m lengths are left, from n on; code is what was read. -/
def signF (T : List UInt8) (L : List Nat) : Nat → Nat → Nat → Nat → Option (Nat × Nat)
  | 0, _, _, _ => none
  | m + 1, n, code, I =>
    if I < 8 * T.length then
      if 2 * code + bitAt T I < beh L n then some ((idxs L n).getD (2 * code + bitAt T I - 2 * beh L (n - 1)) 0, I + 1)
      else signF T L m (n + 1) (2 * code + bitAt T I) (I + 1)
    else none
def signS (T : List UInt8) (L : List Nat) (I : Nat) : Option (Nat × Nat) := signF T L 15 1 0 I
theorem signF_bd (T : List UInt8) (L : List Nat) : ∀ m n code I s I', signF T L m n code I = some (s, I') → I < I' ∧ I' ≤ 8 * T.length ∧ (s < L.length ∨ s = 0) := by
  intro m
  induction m with
  | zero => intro n code I s I' h; cases h
  | succ m ih =>
    intro n code I s I' h
    unfold signF at h
    split at h
    · split at h
      · injection h with h
        injection h with h1 h2
        refine ⟨by omega, by omega, ?_⟩
        by_cases hc : 2 * code + bitAt T I - 2 * beh L (n - 1) < (idxs L n).length
        · have hm := List.getElem_mem hc
          have := idxF_lt L n 0 _ hm
          rw [List.getD_eq_getElem?_getD, List.getElem?_eq_getElem hc] at h1
          simp only [Option.getD_some] at h1
          rw [← h1]
          omega
        · rw [List.getD_eq_getElem?_getD, List.getElem?_eq_none (by omega)] at h1
          exact .inr h1.symm
      · have := ih _ _ _ _ _ h; omega
    · cases h
theorem signS_bd {T : List UInt8} {L : List Nat} {I s I' : Nat} (h : signS T L I = some (s, I')) : I < I' ∧ I' ≤ 8 * T.length ∧ (s < L.length ∨ s = 0) := signF_bd _ _ _ _ _ _ _ _ h

def moreS (base : Nat) : Nat × Option Nat → Option (Nat × Nat)
  | (v, some I') => some (base + v, I')
  | (_, none) => none
/-- How long a copy is, by its sign. -/
def lengthS (T : List UInt8) (s I : Nat) : Option (Nat × Nat) :=
  if s < 265 then some (s - 254, I) else if s = 285 then some (258, I) else if 285 < s then none
  else moreS (3 + (4 + (s - 261) % 4) * 2 ^ ((s - 261) / 4)) (numS T (some I) ((s - 261) / 4))
/-- How far back, by its sign. -/
def distS (T : List UInt8) (s I : Nat) : Option (Nat × Nat) :=
  if s < 4 then some (s + 1, I) else if 29 < s then none
  else moreS (1 + (2 + s % 2) * 2 ^ ((s - 2) / 2)) (numS T (some I) ((s - 2) / 2))

/-- The order in which the lengths of the codes of lengths come. -/
def orderL : List Nat := [16, 17, 18, 0, 8, 7, 9, 6, 10, 5, 11, 4, 12, 3, 13, 2, 14, 1, 15]
def codesS (T : List UInt8) : List Nat → List Nat → Option Nat → List Nat × Option Nat
  | [], codes, s => (codes, s)
  | c :: cs, codes, s => codesS T cs (codes.set c (numS T s 3).1) (numS T s 3).2
/-- The lengths of a block with code words of its own. -/
def lensF (T : List UInt8) (L : List Nat) (target : Nat) : Nat → List Nat → Nat → Option (List Nat × Nat)
  | 0, _, _ => none
  | f + 1, l, I =>
    if l.length < target then
      match signS T L I with
      | none => none
      | some (s, I1) =>
        if s < 16 then lensF T L target f (l ++ [s]) I1
        else if s = 16 then
          if l = [] then none
          else match numS T (some I1) 2 with
            | (v, some I2) => lensF T L target f (l ++ List.replicate (3 + v) (l.getD (l.length - 1) 0)) I2
            | (_, none) => none
        else if s = 17 then
          match numS T (some I1) 3 with
          | (v, some I2) => lensF T L target f (l ++ List.replicate (3 + v) 0) I2
          | (_, none) => none
        else
          match numS T (some I1) 7 with
          | (v, some I2) => lensF T L target f (l ++ List.replicate (11 + v) 0) I2
          | (_, none) => none
    else some (l, I)
/-- The lengths of the two codes, and where they end. -/
def tailS (T : List UInt8) (ns nd : Nat) (codes : List Nat) (I : Nat) : Option (List Nat × List Nat × Nat) :=
  if right codes then
    match lensF T codes (ns + nd) (ns + nd + 1) [] I with
    | none => none
    | some (l, I') => if l.length = ns + nd ∧ l.getD 256 0 ≠ 0 ∧ right (l.take ns) = true ∧ right (l.drop ns) = true then some (l.take ns, l.drop ns, I') else none
  else none
def ownK (T : List UInt8) (ns nd : Nat) : List Nat × Option Nat → Option (List Nat × List Nat × Nat)
  | (codes, some I') => tailS T ns nd codes I'
  | (_, none) => none
def ownS (T : List UInt8) (I : Nat) : Option (List Nat × List Nat × Nat) :=
  ownK T ((numS T (some I) 5).1 + 257) ((numS T (numS T (some I) 5).2 5).1 + 1) (codesS T (orderL.take ((numS T (numS T (numS T (some I) 5).2 5).2 4).1 + 4)) (List.replicate 19 0) (numS T (numS T (numS T (some I) 5).2 5).2 4).2)

def fixL : List Nat := List.replicate 144 8 ++ List.replicate 112 9 ++ List.replicate 24 7 ++ List.replicate 8 8
def fixD : List Nat := List.replicate 32 5
def tabsS (T : List UInt8) (kind I : Nat) : Option (List Nat × List Nat × Nat) := if kind = 2 then ownS T I else some (fixL, fixD, I)

/-- A copy, byte by byte; 3: too long. -/
def copyS (d : Nat) : Nat → List UInt8 → Except Int (List UInt8)
  | 0, out => .ok out
  | n + 1, out => if out.length < 65536 then copyS d n (out ++ [out.getD (out.length - d) 0]) else .error 3
def codedF (T : List UInt8) (L1 L2 : List Nat) : Nat → Nat → List UInt8 → Except Int (List UInt8 × Nat)
  | 0, _, _ => .error 2
  | f + 1, I, out =>
    match signS T L1 I with
    | none => .error 2
    | some (s, I1) =>
      if s = 256 then .ok (out, I1)
      else if s < 256 then
        if out.length < 65536 then codedF T L1 L2 f I1 (out ++ [s.toUInt8]) else .error 3
      else match lengthS T s I1 with
        | none => .error 2
        | some (n, I2) =>
          match signS T L2 I2 with
          | none => .error 2
          | some (k, I3) =>
            match distS T k I3 with
            | none => .error 2
            | some (d, I4) =>
              if out.length < d then .error 2
              else match copyS d n out with
                | .error e => .error e
                | .ok out' => codedF T L1 L2 f I4 out'
def codedS (T : List UInt8) (L1 L2 : List Nat) (I : Nat) (out : List UInt8) : Except Int (List UInt8 × Nat) := codedF T L1 L2 (8 * T.length + 1) I out
def bytesS (T : List UInt8) : Nat → Nat → List UInt8 → Except Int (List UInt8 × Nat)
  | 0, I, out => .ok (out, I)
  | n + 1, I, out =>
    match numS T (some I) 8 with
    | (b, some I') => if out.length < 65536 then bytesS T n I' (out ++ [b.toUInt8]) else .error 3
    | (_, none) => .error 2
def storedK (T : List UInt8) (out : List UInt8) (n : Nat) : Nat × Option Nat → Except Int (List UInt8 × Nat)
  | (m, some I') => if n + m = 65535 then bytesS T n I' out else .error 2
  | (_, none) => .error 2
def storedS (T : List UInt8) (I : Nat) (out : List UInt8) : Except Int (List UInt8 × Nat) :=
  storedK T out (numS T (some (8 * ((I + 7) / 8))) 16).1 (numS T (numS T (some (8 * ((I + 7) / 8))) 16).2 16)
/-- A block of a kind. -/
def blockS (T : List UInt8) (kind I : Nat) (out : List UInt8) : Except Int (List UInt8 × Nat) :=
  if kind = 0 then storedS T I out
  else if kind = 3 then .error 2
  else match tabsS T kind I with
    | none => .error 2
    | some (L1, L2, I') => codedS T L1 L2 I' out
def blocksF (T : List UInt8) : Nat → Nat → List UInt8 → Except Int (List UInt8 × Nat)
  | 0, _, _ => .error 2
  | f + 1, I, out =>
    match numS T (bitS T (some I)).2 2 with
    | (_, none) => .error 2
    | (kind, some I') =>
      match blockS T kind I' out with
      | .error e => .error e
      | .ok (out', I'') => if (bitS T (some I)).1 = 1 then .ok (out', I'') else blocksF T f I'' out'
/-- What is packed in a text, and the bit behind it. -/
def inflateS (T : List UInt8) : Except Int (List UInt8 × Nat) := blocksF T (8 * T.length + 1) 0 []

end Go.Proofs.Ythceefhnmjjddaa
