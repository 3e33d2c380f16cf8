/-
  Steps of the lengths of a block with code words of its own, in plain words.
-/
import Derived.Test.YthceefhnmjjddaaSpec
namespace Go.Proofs.Ythceefhnmjjddaa

def lensR (T : List UInt8) (L : List Nat) (target f : Nat) (g : Nat → List Nat) : Nat × Option Nat → Option (List Nat × Nat)
  | (v, some I2) => lensF T L target f (g v) I2
  | (_, none) => none
def lensK (T : List UInt8) (L : List Nat) (target f : Nat) (l : List Nat) : Option (Nat × Nat) → Option (List Nat × Nat)
  | none => none
  | some (s, I1) =>
    if s < 16 then lensF T L target f (l ++ [s]) I1
    else if s = 16 then (if l = [] then none else lensR T L target f (fun v => l ++ List.replicate (3 + v) (l.getD (l.length - 1) 0)) (numS T (some I1) 2))
    else if s = 17 then lensR T L target f (fun v => l ++ List.replicate (3 + v) 0) (numS T (some I1) 3)
    else lensR T L target f (fun v => l ++ List.replicate (11 + v) 0) (numS T (some I1) 7)
theorem lensF_step {T : List UInt8} {L : List Nat} {target f I : Nat} {l : List Nat} (h : l.length < target) : lensF T L target (f + 1) l I = lensK T L target f l (signS T L I) := by
  conv => lhs; unfold lensF
  rw [if_pos h]
  generalize signS T L I = o
  cases o with
  | none => rfl
  | some p =>
    obtain ⟨s, I1⟩ := p
    simp only [lensK]
    congr 1
theorem lensF_end {T : List UInt8} {L : List Nat} {target f I : Nat} {l : List Nat} (h : ¬ l.length < target) (hf : 0 < f) : lensF T L target f l I = some (l, I) := by
  obtain ⟨f, rfl⟩ : ∃ f', f = f' + 1 := ⟨f - 1, by omega⟩
  unfold lensF
  rw [if_neg h]
theorem lensK_lit {T : List UInt8} {L : List Nat} {target f s I1 : Nat} {l : List Nat} (h : s < 16) : lensK T L target f l (some (s, I1)) = lensF T L target f (l ++ List.replicate 1 s) I1 := by
  simp [lensK, h]
theorem lensK_nil {T : List UInt8} {L : List Nat} {target f I1 : Nat} {l : List Nat} (h : l = []) : lensK T L target f l (some (16, I1)) = none := by
  simp [lensK, h]
theorem lensK_16 {T : List UInt8} {L : List Nat} {target f I1 : Nat} {l : List Nat} (h : l ≠ []) : lensK T L target f l (some (16, I1)) = lensR T L target f (fun v => l ++ List.replicate (3 + v) (l.getD (l.length - 1) 0)) (numS T (some I1) 2) := by
  simp [lensK, h]
theorem lensK_17 {T : List UInt8} {L : List Nat} {target f I1 : Nat} {l : List Nat} : lensK T L target f l (some (17, I1)) = lensR T L target f (fun v => l ++ List.replicate (3 + v) 0) (numS T (some I1) 3) := by
  simp [lensK]
theorem lensK_18 {T : List UInt8} {L : List Nat} {target f I1 : Nat} {l : List Nat} : lensK T L target f l (some (18, I1)) = lensR T L target f (fun v => l ++ List.replicate (11 + v) 0) (numS T (some I1) 7) := by
  simp [lensK]
def tailK (ns nd : Nat) : Option (List Nat × Nat) → Option (List Nat × List Nat × Nat)
  | none => none
  | some (l, I') => if l.length = ns + nd ∧ l.getD 256 0 ≠ 0 ∧ right (l.take ns) = true ∧ right (l.drop ns) = true then some (l.take ns, l.drop ns, I') else none
theorem tailS_right {T : List UInt8} {ns nd I : Nat} {codes : List Nat} (h : right codes = true) : tailS T ns nd codes I = tailK ns nd (lensF T codes (ns + nd) (ns + nd + 1) [] I) := by
  unfold tailS
  rw [if_pos h]
  generalize lensF T codes (ns + nd) (ns + nd + 1) [] I = o
  cases o <;> rfl

end Go.Proofs.Ythceefhnmjjddaa
