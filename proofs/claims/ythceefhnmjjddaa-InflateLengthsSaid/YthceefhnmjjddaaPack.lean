/-
  What is packed in stored blocks is read again. Plain words.
-/
import Derived.Test.YthceefhnmjjddaaMono
namespace Go.Proofs.Ythceefhnmjjddaa

theorem bitAt_byte (T : List UInt8) (j i : Nat) (hi : i < 8) : bitAt T (8 * j + i) = (T.getD j 0).toNat / 2 ^ i % 2 := by
  unfold bitAt
  rw [show (8 * j + i) / 8 = j by omega, show (8 * j + i) % 8 = i by omega]
theorem bitS_byte (T : List UInt8) (j i : Nat) (hi : i < 8) (hj : j < T.length) : bitS T (some (8 * j + i)) = ((T.getD j 0).toNat / 2 ^ i % 2, some (8 * j + (i + 1))) := by
  unfold bitS
  simp only
  rw [if_pos (by omega), bitAt_byte T j i hi, Nat.add_assoc]
theorem numS_byte (T : List UInt8) (j i n : Nat) (hj : j < T.length) : i + n ≤ 8 → numS T (some (8 * j + i)) n = ((T.getD j 0).toNat / 2 ^ i % 2 ^ n, some (8 * j + (i + n))) := by
  induction n with
  | zero => intro _; simp [numS, Nat.mod_one]
  | succ n ih =>
    intro hin
    have h1 := ih (by omega)
    show ((numS T (some (8 * j + i)) n).1 + (bitS T (numS T (some (8 * j + i)) n).2).1 * 2 ^ n, (bitS T (numS T (some (8 * j + i)) n).2).2) = _
    rw [h1]
    simp only
    rw [bitS_byte T j (i + n) (by omega) hj]
    refine Prod.ext ?_ (by simp only [Nat.add_assoc])
    simp only
    rw [Nat.pow_add, ← Nat.div_div_eq_div_mul, Nat.pow_succ]
    have := Nat.mod_mul (x := (T.getD j 0).toNat / 2 ^ i) (a := 2 ^ n) (b := 2)
    rw [this, Nat.mul_comm (2 ^ n)]
theorem num8 (T : List UInt8) (j : Nat) (hj : j < T.length) : numS T (some (8 * j)) 8 = ((T.getD j 0).toNat, some (8 * (j + 1))) := by
  have h := numS_byte T j 0 8 hj (by omega)
  have hb := (T.getD j 0).toNat_lt
  rw [show 8 * j + 0 = 8 * j by omega, show 8 * j + (0 + 8) = 8 * (j + 1) by omega] at h
  rw [h]
  congr 1
  rw [Nat.pow_zero, Nat.div_one]
  exact Nat.mod_eq_of_lt (by omega)
theorem numS_add (T : List UInt8) (s : Option Nat) (m : Nat) : ∀ n, numS T s (m + n) = ((numS T s m).1 + (numS T (numS T s m).2 n).1 * 2 ^ m, (numS T (numS T s m).2 n).2) := by
  intro n
  induction n with
  | zero => simp [numS]
  | succ n ih =>
    show ((numS T s (m + n)).1 + (bitS T (numS T s (m + n)).2).1 * 2 ^ (m + n), (bitS T (numS T s (m + n)).2).2) = _
    rw [ih]
    simp only [numS]
    refine Prod.ext ?_ rfl
    simp only
    rw [Nat.pow_add, Nat.add_mul, Nat.add_assoc, Nat.mul_assoc, Nat.mul_comm (2 ^ m)]
theorem num16 (T : List UInt8) (j : Nat) (hj : j + 1 < T.length) : numS T (some (8 * j)) 16 = ((T.getD j 0).toNat + (T.getD (j + 1) 0).toNat * 256, some (8 * (j + 2))) := by
  have h := numS_add T (some (8 * j)) 8 8
  rw [num8 T j (by omega)] at h
  simp only at h
  rw [num8 T (j + 1) hj] at h
  exact h
theorem bytes_read (T : List UInt8) : ∀ n j out, j + n ≤ T.length → out.length ≤ 65536 → bytesS T n (8 * j) out = if out.length + n ≤ 65536 then .ok (out ++ (T.drop j).take n, 8 * (j + n)) else .error 3 := by
  intro n
  induction n with
  | zero => intro j out _ h; rw [if_pos (by omega)]; simp [bytesS]
  | succ n ih =>
    intro j out hj ho
    have hc : bytesS T (n + 1) (8 * j) out = (match numS T (some (8 * j)) 8 with
      | (b, some I') => if out.length < 65536 then bytesS T n I' (out ++ [b.toUInt8]) else Except.error 3
      | (_, none) => .error 2) := rfl
    rw [hc, num8 T j (by omega)]
    simp only
    by_cases h : out.length < 65536
    · rw [if_pos h, ih (j + 1) _ (by omega) (by simp; omega)]
      have hd : (T.drop j).take (n + 1) = (T.getD j 0) :: (T.drop (j + 1)).take n := by
        rw [List.drop_eq_getElem_cons (by omega), List.take_succ_cons]
        simp [List.getD_eq_getElem?_getD, List.getElem?_eq_getElem (show j < T.length by omega)]
      have hu : ((T.getD j 0).toNat.toUInt8) = T.getD j 0 := by simp
      rw [hd, hu]
      by_cases h2 : out.length + (n + 1) ≤ 65536
      · rw [if_pos h2, if_pos (by simp; omega)]
        simp
        omega
      · rw [if_neg h2, if_neg (by simp; omega)]
    · rw [if_neg h, if_neg (by omega)]

/-- A stored block's head. -/
def headP (n : Nat) (last : Bool) : List UInt8 := [if last then 1 else 0, n.toUInt8, (n / 256).toUInt8, (255 - n % 256).toUInt8, (255 - n / 256).toUInt8]
theorem headP_length (n : Nat) (b : Bool) : (headP n b).length = 5 := rfl
/-- Packed in stored blocks; f: at most so many. -/
def storedP : Nat → List UInt8 → List UInt8
  | 0, _ => []
  | f + 1, l => if l.length ≤ 65535 then headP l.length true ++ l else headP 65535 false ++ l.take 65535 ++ storedP f (l.drop 65535)
def packS (l : List UInt8) : List UInt8 := storedP (l.length + 1) l

theorem getD_mid (p h r : List UInt8) (i : Nat) (hi : i < h.length) : (p ++ (h ++ r)).getD (p.length + i) 0 = h.getD i 0 := by
  simp only [List.getD_eq_getElem?_getD]
  rw [List.getElem?_append_right (by omega), show p.length + i - p.length = i by omega, List.getElem?_append_left hi]

theorem block_read (p r b : List UInt8) (n : Nat) (last : Bool) (f : Nat) (out : List UInt8) (hn : n ≤ 65535) (hb : b.length = n) (ho : out.length ≤ 65536) :
    blocksF (p ++ (headP n last ++ (b ++ r))) (f + 1) (8 * p.length) out =
      if out.length + n ≤ 65536 then (if last then .ok (out ++ b, 8 * (p.length + 5 + n)) else blocksF (p ++ (headP n last ++ (b ++ r))) f (8 * (p.length + 5 + n)) (out ++ b)) else .error 3 := by
  have hT : (p ++ (headP n last ++ (b ++ r))).length = p.length + 5 + n + r.length := by simp [headP_length]; omega
  have g0 := getD_mid p (headP n last) (b ++ r) 0 (by rw [headP_length]; decide)
  have g1 := getD_mid p (headP n last) (b ++ r) 1 (by rw [headP_length]; decide)
  have g2 := getD_mid p (headP n last) (b ++ r) 2 (by rw [headP_length]; decide)
  have g3 := getD_mid p (headP n last) (b ++ r) 3 (by rw [headP_length]; decide)
  have g4 := getD_mid p (headP n last) (b ++ r) 4 (by rw [headP_length]; decide)
  have hdrop : ((p ++ (headP n last ++ (b ++ r))).drop (p.length + 5)).take n = b := by
    rw [List.drop_append, List.drop_of_length_le (by omega), show p.length + 5 - p.length = 5 by omega, List.nil_append, List.drop_append, List.drop_of_length_le (by rw [headP_length]; omega), headP_length]
    simp [← hb]
  generalize p ++ (headP n last ++ (b ++ r)) = T at *
  have e0 : (T.getD p.length 0).toNat = if last then 1 else 0 := by
    rw [Nat.add_zero] at g0; rw [g0]; cases last <;> rfl
  have e1 : (T.getD (p.length + 1) 0).toNat = n % 256 := by rw [g1]; show n.toUInt8.toNat = _; simp
  have e2 : (T.getD (p.length + 2) 0).toNat = n / 256 := by rw [g2]; show (n / 256).toUInt8.toNat = _; simp; omega
  have e3 : (T.getD (p.length + 3) 0).toNat = 255 - n % 256 := by rw [g3]; show (255 - n % 256).toUInt8.toNat = _; simp; omega
  have e4 : (T.getD (p.length + 4) 0).toNat = 255 - n / 256 := by rw [g4]; show (255 - n / 256).toUInt8.toNat = _; simp; omega
  have hb0 := bitS_byte T p.length 0 (by omega) (by omega)
  rw [Nat.add_zero] at hb0
  have hk := numS_byte T p.length 1 2 (by omega) (by omega)
  rw [blocksF_step, hb0]
  simp only
  rw [hk, e0]
  simp only [blocksK]
  have hkind : (if last = true then 1 else 0) / 2 ^ 1 % 2 ^ 2 = 0 := by cases last <;> rfl
  rw [hkind, blockS_0]
  have hst : storedS T (8 * p.length + (1 + 2)) out = if out.length + n ≤ 65536 then .ok (out ++ b, 8 * (p.length + 5 + n)) else .error 3 := by
    unfold storedS
    rw [show (8 * ((8 * p.length + (1 + 2) + 7) / 8)) = 8 * (p.length + 1) by omega, num16 T (p.length + 1) (by omega)]
    simp only
    rw [show p.length + 1 + 2 = p.length + 3 by omega, num16 T (p.length + 3) (by omega), show p.length + 1 + 1 = p.length + 2 by omega, show p.length + 3 + 1 = p.length + 4 by omega, e1, e2, e3, e4]
    have hs : n % 256 + n / 256 * 256 = n := by omega
    rw [hs]
    show (if n + (255 - n % 256 + (255 - n / 256) * 256) = 65535 then bytesS T n (8 * (p.length + 3 + 2)) out else _) = _
    rw [if_pos (by omega), show p.length + 3 + 2 = p.length + 5 by omega, bytes_read T n (p.length + 5) out (by omega) ho, hdrop]
  rw [hst]
  by_cases h : out.length + n ≤ 65536
  · rw [if_pos h, if_pos h]
    cases last <;> simp [blocksT]
  · rw [if_neg h, if_neg h]
    rfl

theorem stored_read (r : List UInt8) : ∀ fl f p l out, 65535 * fl ≥ l.length + 1 → fl ≤ f → out.length ≤ 65536 →
    blocksF (p ++ (storedP fl l ++ r)) f (8 * p.length) out = if out.length + l.length ≤ 65536 then .ok (out ++ l, 8 * (p.length + (storedP fl l).length)) else .error 3 := by
  intro fl
  induction fl with
  | zero => intro f p l out h; omega
  | succ fl ih =>
    intro f p l out h hf ho
    obtain ⟨f, rfl⟩ : ∃ f', f = f' + 1 := ⟨f - 1, by omega⟩
    unfold storedP
    by_cases hl : l.length ≤ 65535
    · rw [if_pos hl, List.append_assoc, block_read p r l l.length true f out hl rfl ho]
      simp [headP_length]
      by_cases h2 : out.length + l.length ≤ 65536
      · rw [if_pos h2, if_pos h2]; simp; omega
      · rw [if_neg h2, if_neg h2]
    · rw [if_neg hl]
      have hb : (l.take 65535).length = 65535 := by rw [List.length_take]; omega
      have e : p ++ (headP 65535 false ++ List.take 65535 l ++ storedP fl (List.drop 65535 l) ++ r) = p ++ (headP 65535 false ++ (List.take 65535 l ++ (storedP fl (List.drop 65535 l) ++ r))) := by simp
      rw [e, block_read p _ (l.take 65535) 65535 false f out (by omega) hb ho]
      by_cases h2 : out.length + 65535 ≤ 65536
      · rw [if_pos h2]
        have e2 : p ++ (headP 65535 false ++ (List.take 65535 l ++ (storedP fl (List.drop 65535 l) ++ r))) = (p ++ headP 65535 false ++ List.take 65535 l) ++ (storedP fl (List.drop 65535 l) ++ r) := by simp
        have hp : (p ++ headP 65535 false ++ List.take 65535 l).length = p.length + 5 + 65535 := by simp only [List.length_append, hb, headP_length]
        have h3 := ih f (p ++ headP 65535 false ++ List.take 65535 l) (l.drop 65535) (out ++ l.take 65535) (by rw [List.length_drop]; omega) (by omega) (by rw [List.length_append, hb]; omega)
        rw [e2, ← hp, if_neg (by simp), h3]
        have e3 : (out ++ l.take 65535).length + (l.drop 65535).length = out.length + l.length := by rw [List.length_append, List.length_drop, hb]; omega
        rw [e3]
        by_cases h4 : out.length + l.length ≤ 65536
        · rw [if_pos h4, if_pos h4]
          have e4 : out ++ l.take 65535 ++ l.drop 65535 = out ++ l := by rw [List.append_assoc, List.take_append_drop]
          rw [e4, hp]
          simp only [List.length_append, headP_length, hb]
          congr 3
          omega
        · rw [if_neg h4, if_neg h4]
      · rw [if_neg h2, if_neg (by omega)]
theorem storedP_le : ∀ fl l, 65535 * fl ≥ l.length + 1 → l.length ≤ (storedP fl l).length := by
  intro fl
  induction fl with
  | zero => intro l h; omega
  | succ fl ih =>
    intro l h
    unfold storedP
    by_cases hl : l.length ≤ 65535
    · rw [if_pos hl]; simp
    · rw [if_neg hl]
      have := ih (l.drop 65535) (by rw [List.length_drop]; omega)
      rw [List.length_drop] at this
      simp only [List.length_append, List.length_take]
      omega
/-- What is packed in stored blocks is read again, whatever stands behind. -/
theorem pack_read (l r : List UInt8) : inflateS (packS l ++ r) = if l.length ≤ 65536 then .ok (l, 8 * (packS l).length) else .error 3 := by
  have h := stored_read r (l.length + 1) (8 * (packS l ++ r).length + 1) [] l [] (by omega) (by have := storedP_le (l.length + 1) l (by omega); simp only [List.length_append]; unfold packS; omega) (by simp)
  simp only [List.nil_append, List.length_nil, Nat.zero_add, Nat.mul_zero] at h
  exact h

end Go.Proofs.Ythceefhnmjjddaa
