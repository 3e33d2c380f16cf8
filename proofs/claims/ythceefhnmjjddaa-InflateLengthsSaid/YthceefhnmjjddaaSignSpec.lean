/-
  The sign whose code word comes, found among the words. Plain words.
-/
import Derived.Test.YthceefhnmjjddaaWordSpec
namespace Go.Proofs.Ythceefhnmjjddaa

theorem idxF_append (A B : List Nat) (n : Nat) : ∀ i, idxF (A ++ B) i n = idxF A i n ++ idxF B (i + A.length) n := by
  induction A with
  | nil => intro i; rfl
  | cons a A ih =>
    intro i
    simp only [List.cons_append, idxF, ih (i + 1), List.length_cons]
    rw [show i + 1 + A.length = i + (A.length + 1) by omega]
    split <;> simp
theorem idxs_rank {L : List Nat} {n i : Nat} (hi : i < L.length) (h : L.getD i 0 = n) : (idxs L n).getD ((L.take i).count n) 0 = i := by
  have e : L = L.take i ++ (n :: L.drop (i + 1)) := by
    have h1 : L.getD i 0 = L[i] := by simp [List.getD_eq_getElem?_getD, hi]
    rw [← h, h1, ← List.drop_eq_getElem_cons hi, List.take_append_drop]
  have hc := idxF_length (L.take i) n 0
  have hi2 : (L.take i).length = i := by rw [List.length_take]; omega
  unfold idxs
  conv => lhs; arg 1; rw [e]
  rw [idxF_append, hi2]
  simp only [idxF]
  rw [List.getD_eq_getElem?_getD, List.getElem?_append_right (by omega), hc, Nat.sub_self]
  simp
theorem rank_some (L : List Nat) (n : Nat) : ∀ k, k ≤ L.length → ∀ r, r < (L.take k).count n → ∃ i, i < k ∧ L.getD i 0 = n ∧ (L.take i).count n = r := by
  intro k
  induction k with
  | zero => intro _ r h; simp at h
  | succ k ih =>
    intro hk r h
    rw [count_snoc L k n (by omega)] at h
    by_cases hr : r < (L.take k).count n
    · obtain ⟨i, h1, h2, h3⟩ := ih (by omega) r hr
      exact ⟨i, by omega, h2, h3⟩
    · by_cases hx : L.getD k 0 = n
      · rw [if_pos hx] at h
        exact ⟨k, by omega, hx, by omega⟩
      · rw [if_neg hx] at h; omega
theorem codeN_lt {L : List Nat} {i n : Nat} (hi : i < L.length) (h : L.getD i 0 = n + 1) : 2 * beh L n ≤ codeN L i ∧ codeN L i < beh L (n + 1) := by
  have h1 := count_snoc L i (n + 1) hi
  rw [if_pos h] at h1
  have h2 := count_take_le L (i + 1) (n + 1)
  have h3 : beh L (n + 1) = 2 * beh L n + L.count (n + 1) := rfl
  have h4 : codeN L i = 2 * beh L n + (L.take i).count (n + 1) := by unfold codeN; rw [h, Nat.add_sub_cancel]
  omega
/-- Whose word the text is, whose sign it is. -/
theorem word_hit {L : List Nat} {n c i : Nat} (hf : fits L 15 = true) (hn : n + 1 ≤ 15) (hi : i < L.length) (hc : c < 2 ^ (n + 1)) (h : wordL L i = binL (n + 1) c) : 2 * beh L n ≤ c ∧ c < beh L (n + 1) ∧ (idxs L (n + 1)).getD (c - 2 * beh L n) 0 = i := by
  have hl := congrArg List.length h
  unfold wordL at hl
  rw [binL_length, binL_length] at hl
  have h1 := codeN_lt hi hl
  have h2 := fits_step (fits_down 15 hn hf)
  have e : codeN L i = c := by
    unfold wordL at h
    rw [hl] at h
    exact binL_inj h (by omega) hc
  have h3 := idxs_rank hi hl
  have h4 : codeN L i = 2 * beh L n + (L.take i).count (n + 1) := by unfold codeN; rw [hl, Nat.add_sub_cancel]
  refine ⟨by omega, by omega, ?_⟩
  rw [show c - 2 * beh L n = (L.take i).count (n + 1) by omega]
  exact h3
/-- There is one for each number from the first on. -/
theorem word_some {L : List Nat} {n c : Nat} (h1 : 2 * beh L n ≤ c) (h2 : c < beh L (n + 1)) : ∃ i, i < L.length ∧ wordL L i = binL (n + 1) c := by
  have h3 : beh L (n + 1) = 2 * beh L n + L.count (n + 1) := rfl
  obtain ⟨i, hi, hx, hr⟩ := rank_some L (n + 1) L.length (Nat.le_refl _) (c - 2 * beh L n) (by rw [List.take_length]; omega)
  refine ⟨i, hi, ?_⟩
  unfold wordL codeN
  rw [hx, Nat.add_sub_cancel, hr, show 2 * beh L n + (c - 2 * beh L n) = c by omega]
theorem right_fits {L : List Nat} (h : right L = true) : fits L 15 = true := by
  unfold right at h
  simp only [Bool.and_eq_true] at h
  exact h.1

theorem signF_got {T : List UInt8} {L : List Nat} {m n c I : Nat} (hI : I < 8 * T.length) (h : 2 * c + bitAt T I < beh L (n + 1)) : signF T L (m + 1) (n + 1) c I = some ((idxs L (n + 1)).getD (2 * c + bitAt T I - 2 * beh L n) 0, I + 1) := by
  show (if I < 8 * T.length then _ else _) = _
  rw [if_pos hI, if_pos h, Nat.add_sub_cancel]
theorem signF_more {T : List UInt8} {L : List Nat} {m n c I : Nat} (hI : I < 8 * T.length) (h : ¬ 2 * c + bitAt T I < beh L (n + 1)) : signF T L (m + 1) (n + 1) c I = signF T L m (n + 2) (2 * c + bitAt T I) (I + 1) := by
  show (if I < 8 * T.length then _ else _) = _
  rw [if_pos hI, if_neg h]
theorem signF_none {T : List UInt8} {L : List Nat} {m n c I : Nat} (hI : ¬ I < 8 * T.length ∨ m = 0) : signF T L m n c I = none := by
  cases m with
  | zero => rfl
  | succ m =>
    show (if I < 8 * T.length then _ else _) = _
    rw [if_neg (by omega)]
theorem binL_more (n c b : Nat) (hb : b < 2) : binL (n + 1) (2 * c + b) = binL n c ++ [(48 + b).toUInt8] := by
  show binL n ((2 * c + b) / 2) ++ [(48 + (2 * c + b) % 2).toUInt8] = _
  rw [show (2 * c + b) / 2 = c by omega, show (2 * c + b) % 2 = b by omega]

end Go.Proofs.Ythceefhnmjjddaa
