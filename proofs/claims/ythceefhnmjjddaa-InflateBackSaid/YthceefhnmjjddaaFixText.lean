/-
  What is packed by fixed code words is read again. Plain words.
-/
import Derived.Test.YthceefhnmjjddaaBitText
import Derived.Test.YthceefhnmjjddaaPack
namespace Go.Proofs.Ythceefhnmjjddaa

def Laid (T : List UInt8) (I : Nat) (bs : List Nat) : Prop := ∀ q, q < bs.length → I + q < 8 * T.length ∧ bitAt T (I + q) = bs.getD q 0
theorem Laid.left {T : List UInt8} {I : Nat} {a b : List Nat} (h : Laid T I (a ++ b)) : Laid T I a := by
  intro q hq
  have := h q (by simp; omega)
  rw [List.getD_eq_getElem?_getD, List.getElem?_append_left hq] at this
  exact this
theorem Laid.right {T : List UInt8} {I : Nat} {a b : List Nat} (h : Laid T I (a ++ b)) : Laid T (I + a.length) b := by
  intro q hq
  have := h (a.length + q) (by simp; omega)
  rw [List.getD_eq_getElem?_getD, List.getElem?_append_right (by omega), show a.length + q - a.length = q by omega] at this
  rw [Nat.add_assoc]
  exact this
/-- A code word's bits, the highest first. -/
def codeBits (n c : Nat) : List Nat := (List.range n).map fun q => c / 2 ^ (n - q - 1) % 2
theorem codeBits_length (n c : Nat) : (codeBits n c).length = n := by simp [codeBits]
theorem Laid.word {T : List UInt8} {I n c : Nat} (h : Laid T I (codeBits n c)) : WordBits T n c 0 I := by
  intro q hq
  have := h q (by rw [codeBits_length]; omega)
  refine ⟨this.1, ?_⟩
  rw [this.2, Nat.zero_add]
  have hq' : q < n := by omega
  simp [codeBits, List.getD_eq_getElem?_getD, hq']
def fixN (x : UInt8) : Nat := if x.toNat < 144 then 8 else 9
def fixC (x : UInt8) : Nat := if x.toNat < 144 then x.toNat + 48 else x.toNat - 144 + 400
theorem fix_words : ∀ s, s < 256 → fixL.getD s 0 = (if s < 144 then 8 else 9) ∧ codeN fixL s = (if s < 144 then s + 48 else s - 144 + 400) := by decide +kernel
theorem fix_end : fixL.getD 256 0 = 7 ∧ codeN fixL 256 = 0 := by decide +kernel
theorem fixL_fits : fits fixL 15 = true := by decide +kernel
theorem fixL_len : fixL.length = 288 := by decide +kernel
def byteBits (l : List UInt8) : List Nat := l.flatMap fun x => codeBits (fixN x) (fixC x)
theorem sign_byte {T : List UInt8} {I : Nat} {x : UInt8} (h : Laid T I (codeBits (fixN x) (fixC x))) : signS T fixL I = some (x.toNat, I + fixN x) := by
  obtain ⟨h1, h2⟩ := fix_words x.toNat x.toNat_lt
  have hn : fixN x = (fixN x - 1) + 1 := by unfold fixN; split <;> omega
  have hc : codeN fixL x.toNat = fixC x := h2
  have hl : fixL.getD x.toNat 0 = fixN x := h1
  rw [hn] at h hl ⊢
  rw [← hc] at h
  exact sign_read (by unfold fixN; split <;> omega) fixL_fits (by have := x.toNat_lt; rw [fixL_len]; omega) hl h.word
theorem coded_bytes {T : List UInt8} : ∀ l f I out, l.length < f → out.length + l.length ≤ 65536 → Laid T I (byteBits l ++ codeBits 7 0) → codedF T fixL fixD f I out = .ok (out ++ l, I + (byteBits l).length + 7) := by
  intro l
  induction l with
  | nil =>
    intro f I out hf _ h
    obtain ⟨f, rfl⟩ : ∃ f', f = f' + 1 := ⟨f - 1, by simp at hf; omega⟩
    have h7 : Laid T I (codeBits 7 0) := h
    have hs : signS T fixL I = some (256, I + 7) := by
      have h2 := fix_end
      refine sign_read (n := 6) (by omega) fixL_fits (by rw [fixL_len]; omega) h2.1 ?_
      rw [h2.2]
      exact h7.word
    conv => lhs; unfold codedF
    rw [hs]
    simp [byteBits]
  | cons x l ih =>
    intro f I out hf ho h
    obtain ⟨f, rfl⟩ : ∃ f', f = f' + 1 := ⟨f - 1, by simp at hf; omega⟩
    have e : byteBits (x :: l) ++ codeBits 7 0 = codeBits (fixN x) (fixC x) ++ (byteBits l ++ codeBits 7 0) := by simp [byteBits]
    rw [e] at h
    have hs := sign_byte h.left
    have hr := h.right
    rw [codeBits_length] at hr
    have hx := x.toNat_lt
    simp only [List.length_cons] at hf ho
    conv => lhs; unfold codedF
    rw [hs]
    simp only
    rw [if_neg (by omega), if_pos (by omega), if_pos (by omega), ih f (I + fixN x) (out ++ [x.toNat.toUInt8]) (by omega) (by simp; omega) hr]
    have hu : x.toNat.toUInt8 = x := by simp
    rw [hu]
    have e2 : (byteBits (x :: l)).length = fixN x + (byteBits l).length := by simp [byteBits, codeBits_length]
    rw [e2]
    simp
    omega
def fixBits (l : List UInt8) : List Nat := [1, 1, 0] ++ (byteBits l ++ codeBits 7 0)
theorem codeBits_lt (n c I : Nat) : (codeBits n c).getD I 0 < 2 := by
  by_cases h : I < n
  · simp [codeBits, List.getD_eq_getElem?_getD, h]; omega
  · rw [List.getD_eq_getElem?_getD, List.getElem?_eq_none (by rw [codeBits_length]; omega)]; decide
theorem Bin.append {a b : List Nat} (ha : Bin a) (hb : Bin b) : Bin (a ++ b) := by
  intro I
  rw [List.getD_eq_getElem?_getD]
  by_cases h : I < a.length
  · rw [List.getElem?_append_left h, ← List.getD_eq_getElem?_getD]; exact ha I
  · rw [List.getElem?_append_right (by omega), ← List.getD_eq_getElem?_getD]; exact hb _
theorem byteBits_bin (l : List UInt8) : Bin (byteBits l) := by
  induction l with
  | nil => intro I; simp [byteBits]
  | cons x l ih =>
    have e : byteBits (x :: l) = codeBits (fixN x) (fixC x) ++ byteBits l := by simp [byteBits]
    rw [e]
    exact Bin.append (fun I => codeBits_lt _ _ I) ih
theorem fixBits_bin (l : List UInt8) : Bin (fixBits l) := by
  refine Bin.append (fun I => ?_) (Bin.append (byteBits_bin l) (fun I => codeBits_lt _ _ I))
  rcases I with _ | _ | _ | I <;> simp
theorem byteBits_len (l : List UInt8) : l.length ≤ (byteBits l).length ∧ (byteBits l).length ≤ 9 * l.length := by
  induction l with
  | nil => simp [byteBits]
  | cons x l ih =>
    have e : (byteBits (x :: l)).length = fixN x + (byteBits l).length := by simp [byteBits, codeBits_length]
    have h : 8 ≤ fixN x ∧ fixN x ≤ 9 := by unfold fixN; split <;> omega
    rw [e, List.length_cons]
    omega
theorem fixBits_len (l : List UInt8) : (fixBits l).length = 10 + (byteBits l).length := by simp [fixBits, codeBits_length]; omega
/-- What is packed in one fixed block is read again, whatever stands behind. -/
theorem fix_read (l r : List UInt8) (hl : l.length ≤ 65536) : inflateS (textOf (fixBits l) ++ r) = .ok (l, (fixBits l).length) := by
  have hb := fixBits_bin l
  have hlaid : Laid (textOf (fixBits l) ++ r) 0 (fixBits l) := by
    intro q hq
    rw [Nat.zero_add]
    exact bitAt_text hb r q hq
  have hlen := fixBits_len l
  have hbl := byteBits_len l
  have hT : (textOf (fixBits l) ++ r).length = ((fixBits l).length + 7) / 8 + r.length := by rw [List.length_append, textOf_length]
  generalize textOf (fixBits l) ++ r = T at *
  have h3 : Laid T 3 (byteBits l ++ codeBits 7 0) := by have := Laid.right (a := [1, 1, 0]) hlaid; exact this
  have b0 : T.length * 8 > 2 ∧ bitAt T 0 = 1 ∧ bitAt T 1 = 1 ∧ bitAt T 2 = 0 := by
    have q0 := hlaid 0 (by omega)
    have q1 := hlaid 1 (by omega)
    have q2 := hlaid 2 (by omega)
    exact ⟨by omega, q0.2, q1.2, q2.2⟩
  obtain ⟨hT2, e0, e1, e2⟩ := b0
  have hs0 : bitS T (some 0) = (1, some 1) := by unfold bitS; simp only; rw [if_pos (by omega), e0]
  have hs1 : numS T (some 1) 2 = (1, some 3) := by
    have x1 : bitS T (some 1) = (1, some 2) := by unfold bitS; simp only; rw [if_pos (by omega), e1]
    have x2 : bitS T (some 2) = (0, some 3) := by unfold bitS; simp only; rw [if_pos (by omega), e2]
    simp [numS, x1, x2]
  show blocksF T (8 * T.length + 1) 0 [] = _
  rw [blocksF_step, hs0]
  simp only
  rw [hs1]
  show blocksT T _ 1 (blockS T 1 3 []) = _
  rw [blockS_1]
  have hc : codedS T fixL fixD 3 [] = .ok ([] ++ l, 3 + (byteBits l).length + 7) := coded_bytes l (8 * T.length + 1) 3 [] (by omega) (by simpa using hl) h3
  rw [hc]
  have hb1 : blocksT T (8 * T.length) 1 (.ok ([] ++ l, 3 + (byteBits l).length + 7)) = .ok ([] ++ l, 3 + (byteBits l).length + 7) := by simp [blocksT]
  rw [hb1, hlen, List.nil_append]
  congr 2
  omega

end Go.Proofs.Ythceefhnmjjddaa
