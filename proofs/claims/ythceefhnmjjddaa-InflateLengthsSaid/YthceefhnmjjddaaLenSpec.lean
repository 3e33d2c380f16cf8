/-
  The number of a code word; none is the beginning of another. Plain words.
-/
import Derived.Test.YthceefhnmjjddaaLenWalk
import Derived.Test.YthceefhnmjjddaaFixSpec
namespace Go.Proofs.Ythceefhnmjjddaa

def numOf (l : List UInt8) : Nat := l.foldl (fun n b => 2 * n + (b.toNat - 48)) 0
theorem numOf_snoc (l : List UInt8) (b : UInt8) : numOf (l ++ [b]) = 2 * numOf l + (b.toNat - 48) := by simp [numOf]
theorem numOf_take (l : List UInt8) (k : Nat) (h : k < l.length) : numOf (l.take (k + 1)) = 2 * numOf (l.take k) + ((l.getD k 0).toNat - 48) := by
  rw [List.take_succ_eq_append_getElem h, numOf_snoc]
  simp [List.getD_eq_getElem?_getD, h]
theorem numOf_bin (n c : Nat) : numOf (binL n c) = c % 2 ^ n := by
  induction n generalizing c with
  | zero => simp [binL, numOf]; omega
  | succ n ih =>
    have h1 : (48 + c % 2).toUInt8.toNat = 48 + c % 2 := by simp; omega
    show numOf (binL n (c / 2) ++ [_]) = _
    rw [numOf_snoc, ih, h1, Nat.pow_succ, Nat.mul_comm (2 ^ n) 2, Nat.mod_mul]
    omega
theorem binL_byte (n c : Nat) : ∀ b ∈ binL n c, b.toNat = 48 ∨ b.toNat = 49 := by
  induction n generalizing c with
  | zero => simp [binL]
  | succ n ih =>
    intro b hb
    rcases List.mem_append.1 (show b ∈ binL n (c / 2) ++ [(48 + c % 2).toUInt8] from hb) with h | h
    · exact ih _ b h
    · rw [List.mem_singleton] at h
      have h1 : (48 + c % 2).toUInt8.toNat = 48 + c % 2 := by simp; omega
      rw [h, h1]
      omega
theorem binL_get (n c k : Nat) (h : k < n) : ((binL n c).getD k 0).toNat = 48 ∨ ((binL n c).getD k 0).toNat = 49 := by
  have hl : k < (binL n c).length := by rw [binL_length]; exact h
  rw [List.getD_eq_getElem?_getD, List.getElem?_eq_getElem hl]
  exact binL_byte n c _ (List.getElem_mem _)
theorem binL_take (n m c : Nat) (h : n ≤ m) : (binL m c).take n = binL n (c / 2 ^ (m - n)) := by
  induction m generalizing c with
  | zero => obtain rfl : n = 0 := by omega
            simp [binL]
  | succ m ih =>
    by_cases e : n = m + 1
    · subst e
      rw [List.take_of_length_le (by rw [binL_length]; omega)]
      simp
    · show (binL m (c / 2) ++ [_]).take n = _
      rw [List.take_append_of_le_length (by rw [binL_length]; omega), ih _ (by omega), Nat.div_div_eq_div_mul]
      rw [show m + 1 - n = (m - n) + 1 by omega, Nat.pow_succ, Nat.mul_comm 2]
theorem wordL_length (L : List Nat) (i : Nat) : (wordL L i).length = L.getD i 0 := by unfold wordL; exact binL_length _ _
theorem code_fit {L : List Nat} (hr : right L = true) {i n : Nat} (hi : i < L.length) (h : L.getD i 0 = n + 1) (h15 : n + 1 ≤ 15) : codeN L i < 2 ^ (n + 1) :=
  Nat.lt_of_lt_of_le (codeN_lt hi h).2 (fits_step (fits_down 15 h15 (right_fits hr)))
theorem numOf_word {L : List Nat} (hr : right L = true) {i : Nat} (hi : i < L.length) (h15 : L.getD i 0 ≤ 15) : numOf (wordL L i) = outL L i := by
  unfold wordL outL
  rw [numOf_bin]
  by_cases h : L.getD i 0 = 0
  · rw [if_pos h, h]
    omega
  · rw [if_neg h]
    obtain ⟨n, hn⟩ : ∃ n, L.getD i 0 = n + 1 := ⟨L.getD i 0 - 1, by omega⟩
    rw [hn]
    exact Nat.mod_eq_of_lt (code_fit hr hi hn (by omega))
theorem prefix_lt {L : List Nat} {i k n : Nat} (hik : i < k) (hk : k < L.length) (hi : L.getD i 0 = n) : (L.take i).count n < (L.take k).count n := by
  have h1 := count_snoc L i n (by omega)
  rw [if_pos hi] at h1
  have h2 : (L.take (i + 1)).count n ≤ (L.take k).count n := (List.take_sublist_take_left (by omega)).count_le n
  omega
/-- No word is the beginning of another. -/
theorem no_prefix {L : List Nat} (hr : right L = true) (h15 : ∀ x ∈ L, x ≤ 15) {i k : Nat} (hi : i < L.length) (hk : k < L.length) (hne : i ≠ k) (h0 : wordL L i ≠ []) (hle : (wordL L i).length ≤ (wordL L k).length) : (wordL L k).take (wordL L i).length ≠ wordL L i := by
  have hli : L.getD i 0 ≤ 15 := h15 _ (by rw [List.getD_eq_getElem?_getD, List.getElem?_eq_getElem hi]; exact List.getElem_mem _)
  have hlk : L.getD k 0 ≤ 15 := h15 _ (by rw [List.getD_eq_getElem?_getD, List.getElem?_eq_getElem hk]; exact List.getElem_mem _)
  rw [wordL_length, wordL_length] at hle
  rw [wordL_length]
  have hi0 : L.getD i 0 ≠ 0 := fun e => h0 (wordL_zero e)
  obtain ⟨n, hn⟩ : ∃ n, L.getD i 0 = n + 1 := ⟨L.getD i 0 - 1, by omega⟩
  obtain ⟨m, hm⟩ : ∃ m, L.getD k 0 = m + 1 := ⟨L.getD k 0 - 1, by omega⟩
  have ci := codeN_lt hi hn
  have fi := code_fit hr hi hn (by omega)
  have fk := code_fit hr hk hm (by omega)
  unfold wordL
  rw [hn, hm]
  rw [hn, hm] at hle
  rw [binL_take (n + 1) (m + 1) _ hle]
  intro e
  have hdiv : codeN L k / 2 ^ (m + 1 - (n + 1)) < 2 ^ (n + 1) := by
    rw [Nat.div_lt_iff_lt_mul (Nat.two_pow_pos _), ← Nat.pow_add, show n + 1 + (m + 1 - (n + 1)) = m + 1 by omega]
    exact fk
  have e2 := binL_inj e hdiv fi
  by_cases hmn : m = n
  · subst hmn
    rw [Nat.sub_self, Nat.pow_zero, Nat.div_one] at e2
    have c1 : codeN L i = 2 * beh L m + (L.take i).count (m + 1) := by unfold codeN; rw [hn, Nat.add_sub_cancel]
    have c2 : codeN L k = 2 * beh L m + (L.take k).count (m + 1) := by unfold codeN; rw [hm, Nat.add_sub_cancel]
    rcases Nat.lt_or_gt_of_ne hne with h | h
    · have := prefix_lt h hk hn; omega
    · have := prefix_lt h hi hm; omega
  · have h1 := word_behind (m := n + 1) hk hm (by omega)
    omega

end Go.Proofs.Ythceefhnmjjddaa
