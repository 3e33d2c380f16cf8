/-
  The reference's value of two digits, by a contract; that it is what the program reads (plain law).
-/
import Derived.Test.YtdmgbcpdkmljmaaRefEnc
import Derived.Test.YtdmgbcpdkmljmaaRead
namespace Go.Proofs.Ytdmgbcpdkmljmaa
open Go.RowKit

/-- The first number from k on, of n, of which p holds; -1: there is none. -/
def firstFrom (p : Nat → Bool) : Nat → Nat → Int
  | _, 0 => -1
  | k, n + 1 => if p k then (k : Int) else firstFrom p (k + 1) n
/-- Are the digits of b the text's, great or small? -/
def hexM (d : List UInt8) (b : Nat) : Bool := (hexL b).map lowB == d.map lowB
def valI (d : List UInt8) : Int := firstFrom (hexM d) 0 256

theorem firstFrom_hit (p : Nat → Bool) (b : Nat) (hb : p b = true) : ∀ n k, k ≤ b → b < k + n → (∀ j, k ≤ j → j < b → p j = false) → firstFrom p k n = b
  | 0, k, h1, h2, _ => by omega
  | n + 1, k, h1, h2, h3 => by
    unfold firstFrom
    by_cases e : k = b
    · subst e; rw [if_pos hb]
    · rw [h3 k (Nat.le_refl _) (by omega)]
      simp only [Bool.false_eq_true, if_false]
      exact firstFrom_hit p b hb n (k + 1) (by omega) (by omega) fun j hj => h3 j (by omega)
theorem firstFrom_none (p : Nat → Bool) : ∀ n k, (∀ j, k ≤ j → j < k + n → p j = false) → firstFrom p k n = -1
  | 0, _, _ => rfl
  | n + 1, k, h => by
    unfold firstFrom
    rw [h k (Nat.le_refl _) (by omega)]
    simp only [Bool.false_eq_true, if_false]
    exact firstFrom_none p n (k + 1) fun j hj hj' => h j (by omega) (by omega)

theorem low_dig : ∀ k : Nat, k < 16 → ∀ n : Nat, n < 256 → (lowB (hx k) == lowB n.toUInt8) = (digN n.toUInt8 == (k : Int)) := by decide +kernel
theorem low_dig' (k : Nat) (hk : k < 16) (y : UInt8) : (lowB (hx k) == lowB y) = (digN y == (k : Int)) := by
  have := low_dig k hk y.toNat y.toNat_lt
  rwa [show y.toNat.toUInt8 = y by simp] at this
theorem hexM_two (y z : UInt8) (b : Nat) (hb : b < 256) : hexM [y, z] b = ((digN y == ((b / 16 : Nat) : Int)) && (digN z == ((b % 16 : Nat) : Int))) := by
  unfold hexM hexL
  simp only [List.map_cons, List.map_nil]
  rw [← low_dig' (b / 16) (by omega) y, ← low_dig' (b % 16) (by omega) z]
  simp
theorem valI_two (y z : UInt8) : valI [y, z] = if digN y < 0 ∨ digN z < 0 then -1 else ((16 * (digN y).toNat + (digN z).toNat : Nat) : Int) := by
  have hy := digN_le y
  have hz := digN_le z
  split
  · rename_i h
    refine firstFrom_none _ 256 0 fun j _ hj => ?_
    rw [hexM_two y z j (by omega)]
    rcases h with h | h
    · have : (digN y == ((j / 16 : Nat) : Int)) = false := by simp; omega
      rw [this]; rfl
    · have : (digN z == ((j % 16 : Nat) : Int)) = false := by simp; omega
      rw [this, Bool.and_false]
  · rename_i h
    have h1 : 0 ≤ digN y := by omega
    have h2 : 0 ≤ digN z := by omega
    obtain ⟨a, ha⟩ := Int.eq_ofNat_of_zero_le h1
    obtain ⟨c, hc⟩ := Int.eq_ofNat_of_zero_le h2
    rw [ha, hc, Int.toNat_natCast, Int.toNat_natCast]
    refine firstFrom_hit _ _ ?_ 256 0 (Nat.zero_le _) (by omega) fun j _ hj => ?_
    · rw [hexM_two y z _ (by omega), ha, hc]
      have e1 : (16 * a + c) / 16 = a := by omega
      have e2 : (16 * a + c) % 16 = c := by omega
      rw [e1, e2]; simp
    · rw [hexM_two y z j (by omega), ha, hc]
      by_cases h1 : (a : Int) = ((j / 16 : Nat) : Int)
      · have : ((c : Int) == ((j % 16 : Nat) : Int)) = false := by simp; omega
        rw [this, Bool.and_false]
      · have : ((a : Int) == ((j / 16 : Nat) : Int)) = false := by simpa using h1
        rw [this]; rfl

theorem lowTo_all (s : ByteArray) : lowTo s s.size = s.data.toList.map lowB := by
  unfold lowTo; rw [List.take_of_length_le (by simp)]

theorem lower_list (s : ByteArray) (w : World) (hs : s.size ≤ 1048576) :
    Calls Try.prog 29 #[.string s] w fun e w' => e = .returned (.string ⟨(s.data.toList.map lowB).toArray⟩) ∧ ∃ q, w' = w.drewN q := by
  rw [← lowTo_all]; exact lower_any s w hs

set_option maxHeartbeats 400000 in
set_option maxRecDepth 100000 in
theorem value_any (s : ByteArray) (w : World) (hs : s.size ≤ 1048576) :
    Calls Try.prog 26 #[.string s] w fun e w' => e = .returned (.int .i64 (valI s.data.toList)) ∧ ∃ q, w' = w.drewN q := by
  go_enter Try.func26, Try.ntmps26
  go_wp2
  go_loopw [3] (fun i wr => ∃ k : Nat, k ≤ 256 ∧ i = .int .i64 (k : Nat) ∧ valI s.data.toList = firstFrom (hexM s.data.toList) k (256 - k) ∧ ∃ q, wr = w.drewN q) (fun i _ => 256 - (intOf i).toNat)
  case atStart => exact ⟨0, Nat.zero_le _, rfl, rfl, 0, rfl⟩
  case round =>
    obtain ⟨k, hk, rfl, hv, q, rfl⟩ := hrel
    have HV := Lib.hid hv
    clear hv
    by_cases hlt : k < 256
    · have hlt' : (k : Int) < 256 := by omega
      go_wp2_with fail
      refine (hex_list k _ hlt).mono ?_
      rintro e w1 ⟨rfl, q1, rfl⟩
      go_wp2_with fail
      refine (lower_list _ _ (by show (hexL k).toArray.size ≤ _; simp [hexL])).mono ?_
      rintro e w2 ⟨rfl, q2, rfl⟩
      go_wp2_with fail
      refine (lower_list _ _ hs).mono ?_
      rintro e w3 ⟨rfl, q3, rfl⟩
      by_cases hm : hexM s.data.toList k = true
      · have hm' : ((hexL k).map lowB == s.data.toList.map lowB) = true := hm
        go_wp2
        go_ret
        refine ⟨ret_int ?_, _, rfl⟩
        rw [HV.out, show 256 - k = (255 - k) + 1 by omega, firstFrom, if_pos hm]
      · have hm2 : hexM s.data.toList k = false := by simpa using hm
        have hm' : ((hexL k).map lowB == s.data.toList.map lowB) = false := hm2
        have hv2 : valI s.data.toList = firstFrom (hexM s.data.toList) (k + 1) (256 - (k + 1)) := by
          rw [HV.out, show 256 - k = (256 - (k + 1)) + 1 by omega, firstFrom, hm2]
          rfl
        have HV2 := Lib.hid hv2
        clear hv2 hm hm2
        go_wp2
        exact ⟨⟨k + 1, by omega, by go_num, HV2.out, _, rfl⟩, by simp [intOf]; omega⟩
    · go_wp2
      go_ret
      have : k = 256 := by omega
      subst this
      exact ⟨ret_int HV.out.symm, _, rfl⟩

end Go.Proofs.Ytdmgbcpdkmljmaa
