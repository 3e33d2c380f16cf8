/-
  A sign's word, laid bit by bit, is read as that sign; no word begins another. Plain words.
-/
import Derived.Test.YthceefhnmjjddaaSignSpec
namespace Go.Proofs.Ythceefhnmjjddaa

theorem beh_grow (L : List Nat) (m d : Nat) : 2 ^ d * beh L m ≤ beh L (m + d) := by
  induction d with
  | zero => simp
  | succ d ih =>
    have h : beh L (m + d + 1) = 2 * beh L (m + d) + L.count (m + d + 1) := rfl
    rw [Nat.pow_succ, show m + (d + 1) = m + d + 1 by omega, h, Nat.mul_comm (2 ^ d) 2, Nat.mul_assoc]
    omega
/-- The beginning of a word lies behind the words of its length. -/
theorem word_behind {L : List Nat} {n i m : Nat} (hi : i < L.length) (h : L.getD i 0 = n + 1) (hm : m ≤ n) : beh L m ≤ codeN L i / 2 ^ (n + 1 - m) := by
  have h1 := (codeN_lt hi h).1
  have h2 := beh_grow L m (n - m)
  rw [show m + (n - m) = n by omega] at h2
  rw [Nat.le_div_iff_mul_le (Nat.two_pow_pos _), show n + 1 - m = (n - m) + 1 by omega, Nat.pow_succ, Nat.mul_comm]
  rw [Nat.mul_comm (2 ^ (n - m)) 2, Nat.mul_assoc]
  omega
/-- The bits from I on are the word's, from the m-th on. -/
def WordBits (T : List UInt8) (n c : Nat) (m I : Nat) : Prop := ∀ q, m + q < n → I + q < 8 * T.length ∧ bitAt T (I + q) = c / 2 ^ (n - (m + q) - 1) % 2
theorem sign_word {T : List UInt8} {L : List Nat} {n s : Nat} (hn : n + 1 ≤ 15) (hs : s < L.length) (h : L.getD s 0 = n + 1) : ∀ d m I, m + d = n + 1 → 0 < d → WordBits T (n + 1) (codeN L s) m I →
    signF T L (15 - m) (m + 1) (codeN L s / 2 ^ (n + 1 - m)) I = some (s, I + d) := by
  intro d
  induction d with
  | zero => intro m I _ h0; omega
  | succ d ih =>
    intro m I hmd _ hw
    obtain ⟨hI, hb⟩ := hw 0 (by omega)
    rw [Nat.add_zero, Nat.add_zero] at hb
    rw [Nat.add_zero] at hI
    have hcode : 2 * (codeN L s / 2 ^ (n + 1 - m)) + bitAt T I = codeN L s / 2 ^ (n - m) := by
      rw [hb, show n + 1 - (m + 0) - 1 = n - m by omega, show n + 1 - m = (n - m) + 1 by omega, Nat.pow_succ, ← Nat.div_div_eq_div_mul]
      omega
    obtain ⟨f, hf⟩ : ∃ f, 15 - m = f + 1 := ⟨15 - m - 1, by omega⟩
    by_cases hd : d = 0
    · subst hd
      obtain rfl : m = n := by omega
      have h1 := codeN_lt hs h
      rw [Nat.sub_self, Nat.pow_zero, Nat.div_one] at hcode
      rw [hf, signF_got hI (by rw [hcode]; exact h1.2), hcode]
      have h2 := idxs_rank hs h
      have h3 : codeN L s = 2 * beh L m + (L.take s).count (m + 1) := by unfold codeN; rw [h, Nat.add_sub_cancel]
      rw [show codeN L s - 2 * beh L m = (L.take s).count (m + 1) by omega, h2]
    · have h1 := word_behind (m := m + 1) hs h (by omega)
      rw [show n + 1 - (m + 1) = n - m by omega] at h1
      rw [hf, signF_more hI (by rw [hcode]; omega), hcode]
      have h2 := ih (m + 1) (I + 1) (by omega) (by omega) (fun q hq => by
        have := hw (q + 1) (by omega)
        rw [show I + (q + 1) = I + 1 + q by omega, show m + (q + 1) = m + 1 + q by omega] at this
        exact this)
      rw [show 15 - (m + 1) = f by omega, show n + 1 - (m + 1) = n - m by omega] at h2
      rw [h2, show I + 1 + d = I + (d + 1) by omega]
theorem sign_read {T : List UInt8} {L : List Nat} {n s I : Nat} (hn : n + 1 ≤ 15) (hf : fits L 15 = true) (hs : s < L.length) (h : L.getD s 0 = n + 1) (hw : WordBits T (n + 1) (codeN L s) 0 I) : signS T L I = some (s, I + (n + 1)) := by
  have h1 := sign_word hn hs h (n + 1) 0 I (by omega) (by omega) hw
  have h2 := (codeN_lt hs h).2
  have h3 := fits_step (fits_down 15 hn hf)
  have h4 : codeN L s / 2 ^ (n + 1 - 0) = 0 := by rw [Nat.sub_zero]; exact Nat.div_eq_of_lt (by omega)
  rw [h4] at h1
  exact h1

end Go.Proofs.Ythceefhnmjjddaa
