/-
  Bits laid into bytes, from the lowest of each byte on. Plain words.
-/
import Derived.Test.YthceefhnmjjddaaFixSpec
namespace Go.Proofs.Ythceefhnmjjddaa

/-- The first k bits of the j-th byte. -/
def byteF (bs : List Nat) (j : Nat) : Nat → Nat
  | 0 => 0
  | k + 1 => byteF bs j k + bs.getD (8 * j + k) 0 * 2 ^ k
def Bin (bs : List Nat) : Prop := ∀ I, bs.getD I 0 < 2
theorem byteF_lt {bs : List Nat} (h : Bin bs) (j k : Nat) : byteF bs j k < 2 ^ k := by
  induction k with
  | zero => simp [byteF]
  | succ k ih =>
    have h1 := h (8 * j + k)
    have h2 : bs.getD (8 * j + k) 0 * 2 ^ k ≤ 1 * 2 ^ k := Nat.mul_le_mul_right _ (by omega)
    show byteF bs j k + bs.getD (8 * j + k) 0 * 2 ^ k < 2 ^ (k + 1)
    rw [Nat.pow_succ]
    omega
theorem byteF_bit {bs : List Nat} (h : Bin bs) (j k i : Nat) (hi : i < k) : byteF bs j k / 2 ^ i % 2 = bs.getD (8 * j + i) 0 := by
  induction k with
  | zero => omega
  | succ k ih =>
    show (byteF bs j k + bs.getD (8 * j + k) 0 * 2 ^ k) / 2 ^ i % 2 = _
    by_cases hk : i = k
    · subst hk
      have h1 := byteF_lt h j i
      have h2 := h (8 * j + i)
      rw [Nat.add_mul_div_right _ _ (Nat.two_pow_pos _), Nat.div_eq_of_lt h1]
      omega
    · have h3 : k = i + 1 + (k - i - 1) := by omega
      have h4 : bs.getD (8 * j + k) 0 * 2 ^ k = 2 ^ i * (2 * (bs.getD (8 * j + k) 0 * 2 ^ (k - i - 1))) := by
        conv => lhs; rw [h3]
        rw [Nat.pow_add, Nat.pow_add, ← h3]
        simp only [Nat.pow_one, Nat.mul_assoc, Nat.mul_comm, Nat.mul_left_comm]
      rw [h4, Nat.add_mul_div_left _ _ (Nat.two_pow_pos _), Nat.add_mul_mod_self_left]
      exact ih (by omega)
def textOf (bs : List Nat) : List UInt8 := (List.range ((bs.length + 7) / 8)).map fun j => (byteF bs j 8).toUInt8
theorem textOf_length (bs : List Nat) : (textOf bs).length = (bs.length + 7) / 8 := by simp [textOf]
theorem textOf_get {bs : List Nat} (h : Bin bs) (j : Nat) (hj : j < (bs.length + 7) / 8) : ((textOf bs).getD j 0).toNat = byteF bs j 8 := by
  have h1 := byteF_lt h j 8
  simp [textOf, List.getD_eq_getElem?_getD, hj]
  omega
theorem bitAt_text {bs : List Nat} (h : Bin bs) (r : List UInt8) (I : Nat) (hI : I < bs.length) : I < 8 * (textOf bs ++ r).length ∧ bitAt (textOf bs ++ r) I = bs.getD I 0 := by
  have hl := textOf_length bs
  have hj : I / 8 < (bs.length + 7) / 8 := by omega
  refine ⟨by rw [List.length_append, hl]; omega, ?_⟩
  unfold bitAt
  have e : (textOf bs ++ r).getD (I / 8) 0 = (textOf bs).getD (I / 8) 0 := by
    simp only [List.getD_eq_getElem?_getD]
    rw [List.getElem?_append_left (by omega)]
  rw [e, textOf_get h _ hj, byteF_bit h _ _ _ (Nat.mod_lt _ (by omega))]
  rw [show 8 * (I / 8) + I % 8 = I by omega]
theorem byteF_more (bs : List Nat) (b j k : Nat) (h : 8 * j + k ≤ bs.length) : byteF (bs ++ [b]) j k = byteF bs j k := by
  induction k with
  | zero => rfl
  | succ k ih =>
    show byteF (bs ++ [b]) j k + (bs ++ [b]).getD (8 * j + k) 0 * 2 ^ k = _
    rw [ih (by omega)]
    have : (bs ++ [b]).getD (8 * j + k) 0 = bs.getD (8 * j + k) 0 := by
      simp only [List.getD_eq_getElem?_getD]
      rw [List.getElem?_append_left (by omega)]
    rw [this]
    rfl
theorem byteF_over (bs : List Nat) (j k : Nat) (i : Nat) (h : bs.length ≤ 8 * j + i) (hk : i ≤ k) : byteF bs j k = byteF bs j i := by
  induction k with
  | zero => obtain rfl : i = 0 := by omega
            rfl
  | succ k ih =>
    by_cases hi : i = k + 1
    · subst hi; rfl
    · show byteF bs j k + bs.getD (8 * j + k) 0 * 2 ^ k = _
      have : bs.getD (8 * j + k) 0 = 0 := by
        rw [List.getD_eq_getElem?_getD, List.getElem?_eq_none (by omega)]; rfl
      rw [this, ih (by omega)]
      omega
theorem getD_snoc (bs : List Nat) (b : Nat) : (bs ++ [b]).getD bs.length 0 = b := by simp [List.getD_eq_getElem?_getD]
/-- A bit more: into a new byte, or into the last. -/
theorem textOf_new (bs : List Nat) (b : Nat) (h : bs.length % 8 = 0) : textOf (bs ++ [b]) = textOf bs ++ [b.toUInt8] := by
  have hl : ((bs ++ [b]).length + 7) / 8 = (bs.length + 7) / 8 + 1 := by simp; omega
  unfold textOf
  rw [hl, List.range_succ, List.map_append]
  congr 1
  · apply List.map_congr_left
    intro j hj
    rw [List.mem_range] at hj
    rw [byteF_more bs b j 8 (by omega)]
  · simp only [List.map_cons, List.map_nil]
    have e : 8 * ((bs.length + 7) / 8) = bs.length := by omega
    rw [byteF_over (bs ++ [b]) _ 8 1 (by simp; omega) (by omega)]
    show [(0 + (bs ++ [b]).getD (8 * ((bs.length + 7) / 8) + 0) 0 * 2 ^ 0).toUInt8] = _
    rw [e, Nat.add_zero, getD_snoc]
    simp
theorem textOf_or (bs : List Nat) (b : Nat) (hb : Bin bs) (hb2 : b < 2) (h : bs.length % 8 ≠ 0) : ∃ old : UInt8, (textOf bs).getD ((textOf bs).length - 1) 0 = old ∧ old.toNat ||| b * 2 ^ (bs.length % 8) < 256 ∧ textOf (bs ++ [b]) = (textOf bs).set ((textOf bs).length - 1) (old.toNat ||| b * 2 ^ (bs.length % 8)).toUInt8 := by
  have hl : ((bs ++ [b]).length + 7) / 8 = (bs.length + 7) / 8 := by simp; omega
  have ht := textOf_length bs
  have hlast : (textOf bs).length - 1 = bs.length / 8 := by omega
  have hg := textOf_get hb (bs.length / 8) (by omega)
  have h1 : byteF bs (bs.length / 8) 8 = byteF bs (bs.length / 8) (bs.length % 8) := byteF_over bs _ 8 _ (by omega) (by omega)
  have h2 := byteF_lt hb (bs.length / 8) (bs.length % 8)
  have h3 : byteF (bs ++ [b]) (bs.length / 8) 8 = byteF bs (bs.length / 8) (bs.length % 8) + b * 2 ^ (bs.length % 8) := by
    rw [byteF_over (bs ++ [b]) _ 8 (bs.length % 8 + 1) (by simp; omega) (by omega)]
    show byteF (bs ++ [b]) _ (bs.length % 8) + (bs ++ [b]).getD (8 * (bs.length / 8) + bs.length % 8) 0 * 2 ^ (bs.length % 8) = _
    rw [byteF_more bs b _ _ (by omega), show 8 * (bs.length / 8) + bs.length % 8 = bs.length by omega, getD_snoc]
  have hor : byteF bs (bs.length / 8) (bs.length % 8) ||| b * 2 ^ (bs.length % 8) = byteF bs (bs.length / 8) (bs.length % 8) + b * 2 ^ (bs.length % 8) := by
    rw [Nat.or_comm, Nat.mul_comm b, ← Nat.two_pow_add_eq_or_of_lt h2, Nat.add_comm]
  have hsum : byteF bs (bs.length / 8) (bs.length % 8) + b * 2 ^ (bs.length % 8) < 256 := by
    have e1 : b * 2 ^ (bs.length % 8) ≤ 1 * 2 ^ (bs.length % 8) := Nat.mul_le_mul_right _ (by omega)
    have e2 : 2 ^ (bs.length % 8 + 1) ≤ 2 ^ 8 := Nat.pow_le_pow_right (by omega) (by omega)
    rw [Nat.pow_succ] at e2
    omega
  refine ⟨_, rfl, ?_, ?_⟩
  · rw [hlast, hg, h1, hor]; exact hsum
  · rw [hlast, hg, h1, hor, ← h3]
    apply List.ext_getElem
    · rw [List.length_set, textOf_length, textOf_length, hl]
    · intro j hj1 hj2
      rw [List.getElem_set]
      have hj : j < (bs.length + 7) / 8 := by rw [textOf_length, hl] at hj1; exact hj1
      by_cases hjl : bs.length / 8 = j
      · rw [if_pos hjl]
        subst hjl
        simp [textOf]
      · rw [if_neg hjl]
        simp only [textOf, List.getElem_map, List.getElem_range]
        rw [byteF_more bs b j 8 (by omega)]

end Go.Proofs.Ythceefhnmjjddaa
