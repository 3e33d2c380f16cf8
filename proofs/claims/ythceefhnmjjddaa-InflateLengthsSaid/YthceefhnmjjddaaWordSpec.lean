/-
  Code words as texts of bits. Plain words.
-/
import Derived.Test.YthceefhnmjjddaaMono
namespace Go.Proofs.Ythceefhnmjjddaa

/-- A number of so many bits, the highest first, as a text. -/
def binL : Nat → Nat → List UInt8
  | 0, _ => []
  | n + 1, c => binL n (c / 2) ++ [(48 + c % 2).toUInt8]
theorem binL_length (n c : Nat) : (binL n c).length = n := by
  induction n generalizing c with
  | zero => rfl
  | succ n ih => simp [binL, ih]
theorem binL_step (m c q : Nat) : binL (m + 1) (c / 2 ^ q) = binL m (c / 2 ^ (q + 1)) ++ [(48 + c / 2 ^ q % 2).toUInt8] := by
  show binL m (c / 2 ^ q / 2) ++ _ = _
  rw [Nat.div_div_eq_div_mul, Nat.pow_succ]
theorem bit_inj {a b : Nat} (ha : a < 2) (hb : b < 2) (h : (48 + a).toUInt8 = (48 + b).toUInt8) : a = b := by
  have h2 := congrArg UInt8.toNat h
  simp at h2
  omega
theorem binL_inj {n a b : Nat} (h : binL n a = binL n b) (ha : a < 2 ^ n) (hb : b < 2 ^ n) : a = b := by
  induction n generalizing a b with
  | zero => simp at ha hb; omega
  | succ n ih =>
    have h2 := List.append_inj h (by rw [binL_length, binL_length])
    have h3 := ih h2.1 (by rw [Nat.pow_succ] at ha; omega) (by rw [Nat.pow_succ] at hb; omega)
    have h4 : (48 + a % 2).toUInt8 = (48 + b % 2).toUInt8 := by simpa using h2.2
    have h5 := bit_inj (by omega) (by omega) h4
    omega

/-- Whose code word stands where. -/
def codeN (L : List Nat) (j : Nat) : Nat := 2 * beh L (L.getD j 0 - 1) + (L.take j).count (L.getD j 0)
def wordL (L : List Nat) (j : Nat) : List UInt8 := binL (L.getD j 0) (codeN L j)
/-- The words, as far as those of length n and of the first i. -/
def wAt (L : List Nat) (n i j : Nat) : List UInt8 := if L.getD j 0 < n ∨ (L.getD j 0 = n ∧ j < i) then wordL L j else []
def rowW (L : List Nat) (n i : Nat) : List (List UInt8) := (List.range L.length).map (wAt L n i)
def wordsL (L : List Nat) : List (List UInt8) := (List.range L.length).map (wordL L)
theorem rowW_length (L : List Nat) (n i : Nat) : (rowW L n i).length = L.length := by simp [rowW]
theorem wordL_zero {L : List Nat} {j : Nat} (h : L.getD j 0 = 0) : wordL L j = [] := by unfold wordL; rw [h]; rfl
theorem rowW_start (L : List Nat) : rowW L 1 0 = List.replicate L.length [] := by
  apply List.ext_getElem
  · simp [rowW]
  · intro j h1 h2
    simp only [rowW, List.getElem_map, List.getElem_range, List.getElem_replicate]
    unfold wAt
    split
    · exact wordL_zero (by omega)
    · rfl
theorem rowW_next (L : List Nat) (n : Nat) : rowW L n L.length = rowW L (n + 1) 0 := by
  apply List.ext_getElem
  · simp [rowW]
  · intro j h1 h2
    simp only [rowW, List.getElem_map, List.getElem_range]
    have hj : j < L.length := by simpa [rowW] using h1
    unfold wAt
    by_cases h : L.getD j 0 < n + 1
    · rw [if_pos (by omega), if_pos (by omega)]
    · rw [if_neg (by omega), if_neg (by omega)]
theorem rowW_skip (L : List Nat) (n i : Nat) (h : L.getD i 0 ≠ n) : rowW L n i = rowW L n (i + 1) := by
  apply List.ext_getElem
  · simp [rowW]
  · intro j h1 h2
    simp only [rowW, List.getElem_map, List.getElem_range]
    unfold wAt
    by_cases hj : j = i
    · subst hj
      by_cases h : L.getD j 0 < n
      · rw [if_pos (by omega), if_pos (by omega)]
      · rw [if_neg (by omega), if_neg (by omega)]
    · by_cases h : L.getD j 0 < n ∨ (L.getD j 0 = n ∧ j < i)
      · rw [if_pos h, if_pos (by omega)]
      · rw [if_neg h, if_neg (by omega)]
theorem rowW_set (L : List Nat) (n i : Nat) (h : L.getD i 0 = n) : (rowW L n i).set i (wordL L i) = rowW L n (i + 1) := by
  apply List.ext_getElem
  · simp [rowW]
  · intro j h1 h2
    rw [List.getElem_set]
    simp only [rowW, List.getElem_map, List.getElem_range]
    unfold wAt
    by_cases hj : i = j
    · subst hj
      rw [if_pos rfl, if_pos (by omega)]
    · rw [if_neg hj]
      by_cases h : L.getD j 0 < n ∨ (L.getD j 0 = n ∧ j < i)
      · rw [if_pos h, if_pos (by omega)]
      · rw [if_neg h, if_neg (by omega)]
theorem rowW_end (L : List Nat) (h : ∀ x ∈ L, x ≤ 15) : rowW L 16 0 = wordsL L := by
  apply List.ext_getElem
  · simp [rowW, wordsL]
  · intro j h1 h2
    simp only [rowW, wordsL, List.getElem_map, List.getElem_range]
    have hj : j < L.length := by simpa [rowW] using h1
    unfold wAt
    rw [if_pos]
    have : L.getD j 0 ≤ 15 := by
      rw [List.getD_eq_getElem?_getD, List.getElem?_eq_getElem hj]
      exact h _ (List.getElem_mem _)
    omega

/-- How many have code words of at most n bits. -/
def usedTo (L : List Nat) (n : Nat) : Nat := L.countP fun x => decide (1 ≤ x ∧ x ≤ n)
theorem usedTo_zero (L : List Nat) : usedTo L 0 = 0 := by
  unfold usedTo
  rw [List.countP_eq_zero]
  intro x _
  simp
  omega
theorem usedTo_succ (L : List Nat) (n : Nat) : usedTo L (n + 1) = usedTo L n + L.count (n + 1) := by
  unfold usedTo
  induction L with
  | nil => rfl
  | cons x L ih =>
    rw [List.countP_cons, List.countP_cons, List.count_cons, ih]
    by_cases h1 : x = n + 1
    · subst h1
      rw [if_pos (decide_eq_true (by omega)), if_neg (by rw [decide_eq_true_eq]; omega), if_pos (by simp)]
      omega
    · have : (x == n + 1) = false := by simpa using h1
      rw [this]
      by_cases h2 : 1 ≤ x ∧ x ≤ n
      · rw [if_pos (decide_eq_true (by omega)), if_pos (decide_eq_true h2), if_neg (by decide)]; omega
      · rw [if_neg (by rw [decide_eq_true_eq]; omega), if_neg (by rw [decide_eq_true_eq]; exact h2), if_neg (by decide)]; omega
theorem usedTo_all (L : List Nat) (h : ∀ x ∈ L, x ≤ 15) : usedTo L 15 = used L := by
  have : usedTo L 15 + L.count 0 = L.length := by
    unfold usedTo
    induction L with
    | nil => rfl
    | cons x L ih =>
      have h1 := ih (fun y hy => h y (List.mem_cons_of_mem _ hy))
      have h2 := h x (List.mem_cons_self ..)
      rw [List.countP_cons, List.count_cons, List.length_cons]
      by_cases h3 : x = 0
      · subst h3
        rw [if_neg (by rw [decide_eq_true_eq]; omega), if_pos (by simp)]; omega
      · have : (x == 0) = false := by simpa using h3
        rw [this, if_pos (decide_eq_true (by omega)), if_neg (by decide)]; omega
  unfold used
  omega
theorem count_snoc (L : List Nat) (i n : Nat) (h : i < L.length) : (L.take (i + 1)).count n = (L.take i).count n + if L.getD i 0 = n then 1 else 0 := by
  rw [List.take_succ_eq_append_getElem h, List.count_append]
  have e : L.getD i 0 = L[i] := by simp [List.getD_eq_getElem?_getD, h]
  rw [e]
  by_cases hn : L[i] = n
  · rw [if_pos hn, hn]; simp
  · rw [if_neg hn]; simp [hn]
theorem count_take_le (L : List Nat) (i n : Nat) : (L.take i).count n ≤ L.count n := (List.take_sublist i L).count_le n
theorem fits_step {L : List Nat} {n : Nat} (h : fits L n = true) : beh L n ≤ 2 ^ n := by
  cases n with
  | zero => exact Nat.zero_le _
  | succ n => simp [fits] at h; exact h.2
theorem fits_succ {L : List Nat} {n : Nat} (h : fits L n = true) (h2 : beh L (n + 1) ≤ 2 ^ (n + 1)) : fits L (n + 1) = true := by simp [fits, h, h2]
theorem fits_down {L : List Nat} {n : Nat} : ∀ m, n ≤ m → fits L m = true → fits L n = true := by
  intro m
  induction m with
  | zero => intro h1 h2; obtain rfl : n = 0 := by omega
            exact h2
  | succ m ih =>
    intro h1 h2
    by_cases h : n = m + 1
    · subst h; exact h2
    · simp [fits] at h2; exact ih (by omega) h2.1
theorem right_over {L : List Nat} {n : Nat} (hn : n + 1 ≤ 15) (h : 2 ^ (n + 1) < beh L (n + 1)) : right L = false := by
  have : fits L (n + 1) = false := by
    cases hf : fits L (n + 1) with
    | false => rfl
    | true => have := fits_step hf; omega
  cases hr : right L with
  | false => rfl
  | true =>
    unfold right at hr
    simp only [Bool.and_eq_true] at hr
    rw [fits_down 15 hn hr.1] at this
    cases this
theorem right_last {L : List Nat} (h : fits L 15 = true) : right L = (decide (beh L 15 = 32768) || decide (used L = 0) || (decide (used L = 1) && decide (L.count 1 = 1))) := by
  unfold right
  rw [h]
  rfl

end Go.Proofs.Ythceefhnmjjddaa
