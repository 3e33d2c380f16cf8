/-
  The document's Distance, by a contract.
-/
import Derived.Test.YthceefhnmjjddaaRefLength
namespace Go.Proofs.Ythceefhnmjjddaa
open Go.RowKit

def moreD (k : Nat) : Nat := if 4 ≤ k then (k - 2) / 2 else 0
def baseD (k : Nat) : Nat := if k < 4 then k + 1 else 1 + (2 + k % 2) * 2 ^ ((k - 2) / 2)
theorem baseD_step : ∀ k, k < 30 → baseD (k + 1) = baseD k + 2 ^ moreD k := by decide +kernel
theorem moreD_le (k : Nat) (h : k < 30) : moreD k ≤ 13 := by unfold moreD; split <;> omega
theorem baseD_le (k : Nat) (h : k < 30) : baseD k ≤ 65536 := by
  unfold baseD
  split
  · omega
  · have h1 : 2 ^ ((k - 2) / 2) ≤ 2 ^ 13 := Nat.pow_le_pow_right (by omega) (by omega)
    have h2 : (2 + k % 2) * 2 ^ ((k - 2) / 2) ≤ 3 * 2 ^ 13 := Nat.mul_le_mul (by omega) h1
    omega
theorem distS_eq {T : List UInt8} {s I : Nat} (h2 : s < 30) : distS T s I = moreS (baseD s) (numS T (some I) (moreD s)) := by
  by_cases h : s < 4
  · have e1 : baseD s = s + 1 := if_pos h
    have e2 : moreD s = 0 := if_neg (by omega)
    have h0 : numS T (some I) 0 = (0, some I) := rfl
    have h1 : ∀ b, moreS b (0, some I) = some (b + 0, I) := fun _ => rfl
    rw [e1, e2, h0, h1, Nat.add_zero]
    unfold distS
    rw [if_pos h]
  · have e1 : baseD s = 1 + (2 + s % 2) * 2 ^ ((s - 2) / 2) := if_neg h
    have e2 : moreD s = (s - 2) / 2 := if_pos (by omega)
    rw [e1, e2]
    exact (if_neg h).trans (if_neg (by omega))

set_option maxHeartbeats 1000000 in
set_option maxRecDepth 100000 in
theorem rdist_any (b : Nat) (A : Option Addr) (cap : Nat) (T : List UInt8) (I s : Nat) (w : World) (h : RAlive w b A cap T I) (hT : T.length ≤ 65536) (h2 : s ≤ 65536) :
    Calls Try.prog 27 #[.pointer (some ⟨b, 0, none⟩), .int .i64 (s : Nat)] w (RMeasured (distS T s I) b A cap T w) := by
  have hno : 29 < s → distS T s I = none := fun h => by unfold distS; rw [if_neg (by omega), if_pos (by omega)]
  have hmo := @distS_eq T s I
  generalize distS T s I = o at *
  have HNO := Lib.hid hno
  have HMO := Lib.hid hmo
  clear hno hmo
  obtain ⟨h2c, f2c⟩ := h.cells
  go_enter Try.func27, Try.ntmps27
  go_wp2_with fail
  go_loopw [5, 6] (fun v i wr => ∃ k : Nat, i = .int .i64 (k : Nat) ∧ k ≤ 30 ∧ k ≤ s ∧ v = .int .i64 (baseD k : Nat) ∧ wr = w) (fun _ i _ => 30 - (intOf i).toNat)
  case atStart => exact ⟨0, rfl, by omega, by omega, rfl, rfl⟩
  case round =>
    obtain ⟨k, rfl, hk2, hks, rfl, rfl⟩ := hrel
    by_cases hlt : k < 30
    · have hst := baseD_step k hlt
      have hml := moreD_le k hlt
      have hbl := baseD_le k (by omega)
      obtain ⟨m, hm⟩ : ∃ m, moreD k = m := ⟨_, rfl⟩
      generalize hb : baseD k = bk at *
      rw [hm] at hst hml
      have HB := Lib.hid hb
      have HST := Lib.hid hst
      have HM := Lib.hid hm
      have HWB := Lib.hid (wrap_base bk m (by omega) (by omega))
      clear hb hst
      by_cases h265 : 4 ≤ k
      · have hme : moreD k = (k - 2) / 2 := if_pos h265
        have hq : ((k : Int) - 2) / 2 = (m : Int) := by omega
        have h265I : (4 : Int) ≤ (k : Int) := by omega
        have hw1 : IntKind.i64.wrap ((k : Int) - 2) = (k : Int) - 2 := IntWalk.i64_in _ (by omega)
        have hm0 : (0 : Int) ≤ (m : Int) := by omega
        have hm5 : (m : Int) ≤ 64 := by omega
        clear hme hm
        by_cases hks2 : k = s
        · subst hks2
          have hv := valR_lt T (some I) m (by omega)
          have HF : Hid (o = moreS bk (numS T (some I) m)) := (HMO.out hlt).trans (by rw [HB.out, HM.out])
          go_wp2_with fail
          refine (rnumber_any b A cap T (some I) m _ _ h hT (by go_num) (by omega)).mono ?_
          rintro e w3 ⟨rfl, hr3, hO3⟩
          generalize hvv : valR (numS T (some I) m) = v at *
          have HVV := Lib.hid hvv
          clear hvv
          go_wp2
          go_ret
          exact rmeasured_more HF.out (by have := HVV.out; omega) hr3 hO3
        · have hnb : ((k : Int) == (s : Int)) = false := by simp; omega
          go_wp2_with fail
          go_roundw
          case rel => exact ⟨k + 1, by go_num, by omega, by omega, by rw [HST.out]; first | exact congrArg _ (HWB.out) | simp, by first | rfl | trivial⟩
          case measure => simp [intOf]; omega
      · have hme : moreD k = 0 := if_neg h265
        obtain rfl : m = 0 := by omega
        clear hme hm
        by_cases hks2 : k = s
        · subst hks2
          have hv := valR_lt T (some I) 0 (by omega)
          have HF : Hid (o = moreS bk (numS T (some I) 0)) := (HMO.out hlt).trans (by rw [HB.out, HM.out])
          go_wp2_with fail
          refine (rnumber_any b A cap T (some I) 0 _ _ h hT (by go_num) (by omega)).mono ?_
          rintro e w3 ⟨rfl, hr3, hO3⟩
          generalize hvv : valR (numS T (some I) 0) = v at *
          have HVV := Lib.hid hvv
          clear hvv
          go_wp2
          go_ret
          exact rmeasured_more HF.out (by have := HVV.out; omega) hr3 hO3
        · have hnb : ((k : Int) == (s : Int)) = false := by simp; omega
          go_wp2_with fail
          go_roundw
          case rel => exact ⟨k + 1, by go_num, by omega, by omega, by rw [HST.out]; first | exact congrArg _ (HWB.out) | simp, by first | rfl | trivial⟩
          case measure => simp [intOf]; omega
    · obtain rfl : k = 30 := by omega
      have HF := Lib.hid (HNO.out (by omega))
      have hx := h.halt 2
      go_wp2_with fail
      go_ret
      exact rmeasured_none HF.out hx ((Only.refl _ _).set (.inl (List.mem_singleton.2 rfl)) _ _)

end Go.Proofs.Ythceefhnmjjddaa
