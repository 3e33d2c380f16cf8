/-
  '(*packer).word': a code word, the highest bit first.
-/
import Derived.Test.YthceefhnmjjddaaPackBit
namespace Go.Proofs.Ythceefhnmjjddaa
open Go.RowKit

theorem codeBits_next (n c j m : Nat) (hj : n = j + 1 + m) : (codeBits n c).take j ++ [c / 2 ^ m % 2] = (codeBits n c).take (j + 1) := by
  have hlt : j < (codeBits n c).length := by rw [codeBits_length]; omega
  rw [List.take_succ_eq_append_getElem hlt]
  congr 2
  simp [codeBits]
  rw [show n - j - 1 = m by omega]
theorem packbit_v (B pb base : Nat) (bs : List Nat) (b : Nat) (v : Int) (w0 w : World) (h : Packing B pb base bs w0 w) (hB : B ≤ base ∧ B ≤ pb) (hv : v = (b : Nat)) (hb : b < 2 ^ 64) (hn : bs.length ≤ 30000) :
    Calls Try.prog 31 #[.pointer (some ⟨pb, 0, none⟩), .int .u64 v] w fun e w' => e = .returned (.tuple #[]) ∧ Packing B pb base (bs ++ [b % 2]) w0 w' := by
  subst hv; exact packbit_any B pb base bs b w0 w h hB hb hn

set_option maxHeartbeats 1000000 in
set_option maxRecDepth 100000 in
theorem word_any (B pb base : Nat) (bs : List Nat) (c n : Nat) (v k : Int) (w0 w : World) (h : Packing B pb base bs w0 w) (hB : B ≤ base ∧ B ≤ pb) (hv : v = (c : Nat)) (hk : k = (n : Nat)) (hc : c < 1024) (hn9 : n ≤ 9) (hn : bs.length ≤ 29000) :
    Calls Try.prog 32 #[.pointer (some ⟨pb, 0, none⟩), .int .u64 v, .int .i64 k] w fun e w' => e = .returned (.tuple #[]) ∧ Packing B pb base (bs ++ codeBits n c) w0 w' := by
  subst hv hk
  have hw1 : IntKind.i64.wrap ((n : Int) - 1) = (n : Int) - 1 := IntWalk.i64_in _ (by omega)
  go_enter Try.func32, Try.ntmps32
  go_wp2_with fail
  go_loopw [6] (fun i wr => ∃ j : Nat, i = .int .i64 ((n : Int) - 1 - (j : Nat)) ∧ j ≤ n ∧ Packing B pb base (bs ++ (codeBits n c).take j) w0 wr) (fun i _ => (intOf i + 1).toNat)
  case atStart => exact ⟨0, by simp, Nat.zero_le _, by simpa using h⟩
  case round =>
    clear h
    obtain ⟨j, rfl, hj, hp⟩ := hrel
    by_cases hlt : j < n
    · obtain ⟨m, hm⟩ : ∃ m : Nat, n = j + 1 + m := ⟨n - j - 1, by omega⟩
      have hmI : (n : Int) - 1 - (j : Int) = (m : Int) := by omega
      rw [hmI]
      have hm9 : (m : Int) ≤ 9 := by omega
      have hdiv : c / 2 ^ m < 2 ^ 64 := Nat.lt_of_le_of_lt (Nat.div_le_self _ _) (by omega)
      have hle : (bs ++ (codeBits n c).take j).length ≤ 30000 := by rw [List.length_append, List.length_take, codeBits_length]; omega
      have HM := Lib.hid hm
      have HMI := Lib.hid hmI
      clear hm hmI
      go_wp2_with fail
      refine (packbit_v B pb base _ (c / 2 ^ m) _ w0 _ hp hB (by simp) hdiv hle).mono ?_
      rintro e w5 ⟨rfl, hp5⟩
      rw [List.append_assoc, codeBits_next n c j m HM.out] at hp5
      go_wp2
      go_roundw
      case rel => exact ⟨j + 1, by have := HMI.out; congr 1; omega, by omega, hp5⟩
      case measure => simp [intOf]
    · obtain rfl : j = n := by omega
      have hneg : (j : Int) - 1 - (j : Int) = -1 := by omega
      rw [hneg]
      rw [List.take_of_length_le (by rw [codeBits_length]; omega)] at hp
      go_wp2
      go_end0
      exact ⟨rfl, hp⟩

end Go.Proofs.Ythceefhnmjjddaa
