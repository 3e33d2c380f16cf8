/-
  The document's Length, by a contract.
-/
import Derived.Test.YthceefhnmjjddaaRefRead
import Derived.Test.YthceefhnmjjddaaLength
namespace Go.Proofs.Ythceefhnmjjddaa
open Go.RowKit

/-- What the calls of Length and Distance give. -/
def RMeasured (o : Option (Nat × Nat)) (b : Nat) (A : Option Addr) (cap : Nat) (T : List UInt8) (w : World) (e : Ending) (w' : World) : Prop :=
  match o with
  | some (s, I') => e = .returned (.int .i64 (s : Nat)) ∧ RAlive w' b A cap T I' ∧ Only [b] w w'
  | none => (∃ n : Int, e = .returned (.int .i64 n)) ∧ RHalt w' b 2 ∧ Only [b] w w'
theorem rmeasured_some {o : Option (Nat × Nat)} {b : Nat} {A : Option Addr} {cap : Nat} {T : List UInt8} {w w' : World} {s I' : Nat} {n : Int} (ho : o = some (s, I')) (hs : n = (s : Nat)) (ha : RAlive w' b A cap T I') (hO : Only [b] w w') :
    RMeasured o b A cap T w (.returned (.int .i64 n)) w' := by
  subst ho hs; exact ⟨rfl, ha, hO⟩
theorem rmeasured_none {o : Option (Nat × Nat)} {b : Nat} {A : Option Addr} {cap : Nat} {T : List UInt8} {w w' : World} {n : Int} (ho : o = none) (ha : RHalt w' b 2) (hO : Only [b] w w') :
    RMeasured o b A cap T w (.returned (.int .i64 n)) w' := by
  subst ho; exact ⟨⟨_, rfl⟩, ha, hO⟩
theorem rmeasured_more {o : Option (Nat × Nat)} {b : Nat} {A : Option Addr} {cap : Nat} {T : List UInt8} {w w' : World} {base I m : Nat} {n : Int} (ho : o = moreS base (numS T (some I) m)) (hn : n = (base + valR (numS T (some I) m) : Nat)) (hr : RRAt w' b A cap T (numS T (some I) m).2) (hO : Only [b] w w') :
    RMeasured o b A cap T w (.returned (.int .i64 n)) w' := by
  generalize numS T (some I) m = r at *
  obtain ⟨v, s⟩ := r
  rcases s with _ | I'
  · exact rmeasured_none ho (RDead.halt hr) hO
  · exact rmeasured_some ho hn hr hO
theorem RAlive.cells {w : World} {b : Nat} {A : Option Addr} {cap : Nat} {T : List UInt8} {I : Nat} (h : RAlive w b A cap T I) : w.cell? ⟨b, 2, none⟩ = some (.int .i64 0) ∧ w.frozen? ⟨b, 2, none⟩ = false := ⟨h.blk.cell 2, h.blk.frozen 2⟩
theorem RAlive.halt {w : World} {b : Nat} {A : Option Addr} {cap : Nat} {T : List UInt8} {I : Nat} (h : RAlive w b A cap T I) (e : Int) : RHalt (w.setCell ⟨b, 2, none⟩ (.int .i64 e)) b e := ⟨_, _, h.blk.set_ 2 _⟩
def moreL (k : Nat) : Nat := if 265 ≤ k then (k - 261) / 4 else 0
def baseL (k : Nat) : Nat := if k < 265 then k - 254 else 3 + (4 + (k - 261) % 4) * 2 ^ ((k - 261) / 4)
theorem baseL_step : ∀ k, 257 ≤ k → k < 285 → baseL (k + 1) = baseL k + 2 ^ moreL k := by
  intro k h1 h2
  have h : ∀ j, j < 28 → baseL (j + 257 + 1) = baseL (j + 257) + 2 ^ moreL (j + 257) := by decide +kernel
  have := h (k - 257) (by omega)
  rwa [show k - 257 + 257 = k by omega] at this
theorem moreL_le (k : Nat) (h : k < 285) : moreL k ≤ 5 := by unfold moreL; split <;> omega
theorem baseL_le (k : Nat) (h : k < 286) : baseL k ≤ 1000 := by
  unfold baseL
  split
  · omega
  · have h1 : 2 ^ ((k - 261) / 4) ≤ 2 ^ 6 := Nat.pow_le_pow_right (by omega) (by omega)
    have h2 : (4 + (k - 261) % 4) * 2 ^ ((k - 261) / 4) ≤ 7 * 2 ^ 6 := Nat.mul_le_mul (by omega) h1
    omega
theorem lengthS_eq {T : List UInt8} {s I : Nat} (h1 : 257 ≤ s) (h2 : s < 285) : lengthS T s I = moreS (baseL s) (numS T (some I) (moreL s)) := by
  by_cases h : s < 265
  · have e1 : baseL s = s - 254 := if_pos h
    have e2 : moreL s = 0 := if_neg (by omega)
    have h0 : numS T (some I) 0 = (0, some I) := rfl
    have h1 : ∀ b, moreS b (0, some I) = some (b + 0, I) := fun _ => rfl
    rw [e1, e2, h0, h1, Nat.add_zero]
    unfold lengthS
    rw [if_pos h]
  · have e1 : baseL s = 3 + (4 + (s - 261) % 4) * 2 ^ ((s - 261) / 4) := if_neg h
    have e2 : moreL s = (s - 261) / 4 := if_pos (by omega)
    rw [e1, e2]
    exact (if_neg h).trans ((if_neg (by omega)).trans (if_neg (by omega)))

theorem wrap_base (bk m : Nat) (h1 : bk ≤ 65536) (h2 : m ≤ 16) : wrap64 ((bk : Int) + wrap64 (2 ^ m)) = ((bk + 2 ^ m : Nat) : Int) := by
  have h3 : (2 : Nat) ^ m ≤ 65536 := Nat.le_trans (Nat.pow_le_pow_right (by omega) h2) (by decide)
  have e : (2 : Int) ^ m = ((2 ^ m : Nat) : Int) := by simp
  rw [e]
  generalize 2 ^ m = p at *
  rw [show wrap64 (p : Int) = (p : Int) from IntWalk.wrap64_in _ (by omega), IntWalk.wrap64_in _ (by omega)]
  omega
theorem valR_lt (T : List UInt8) (s : Option Nat) (n : Nat) (hn : n ≤ 16) : valR (numS T s n) < 2 ^ 16 := by
  have h := numS_lt T s n
  have h3 : (2 : Nat) ^ n ≤ 2 ^ 16 := Nat.pow_le_pow_right (by omega) hn
  generalize numS T s n = r at *
  obtain ⟨v, st⟩ := r
  cases st with
  | none => show 0 < 2 ^ 16; omega
  | some J => show v < 2 ^ 16; simp only at h; omega

set_option maxHeartbeats 1000000 in
set_option maxRecDepth 100000 in
theorem rlength_any (b : Nat) (A : Option Addr) (cap : Nat) (T : List UInt8) (I s : Nat) (w : World) (h : RAlive w b A cap T I) (hT : T.length ≤ 65536) (h1 : 257 ≤ s) (h2 : s ≤ 65536) :
    Calls Try.prog 26 #[.pointer (some ⟨b, 0, none⟩), .int .i64 (s : Nat)] w (RMeasured (lengthS T s I) b A cap T w) := by
  have hno : 285 < s → lengthS T s I = none := fun h => by unfold lengthS; rw [if_neg (by omega), if_neg (by omega), if_pos (by omega)]
  have h85 : s = 285 → lengthS T s I = some (258, I) := fun h => by unfold lengthS; rw [if_neg (by omega), if_pos h]
  have hmo := @lengthS_eq T s I h1
  generalize lengthS T s I = o at *
  have HNO := Lib.hid hno
  have H85 := Lib.hid h85
  have HMO := Lib.hid hmo
  clear hno h85 hmo
  obtain ⟨h2c, f2c⟩ := h.cells
  go_enter Try.func26, Try.ntmps26
  go_wp2_with fail
  go_loopw [5, 7] (fun v i wr => ∃ k : Nat, i = .int .i64 (k : Nat) ∧ 257 ≤ k ∧ k ≤ 285 ∧ k ≤ s ∧ v = .int .i64 (baseL k : Nat) ∧ wr = w) (fun _ i _ => 285 - (intOf i).toNat)
  case atStart => exact ⟨257, rfl, by omega, by omega, h1, rfl, rfl⟩
  case round =>
    obtain ⟨k, rfl, hk1, hk2, hks, rfl, rfl⟩ := hrel
    by_cases hlt : k < 285
    · have hst := baseL_step k hk1 hlt
      have hml := moreL_le k hlt
      have hbl := baseL_le k (by omega)
      obtain ⟨m, hm⟩ : ∃ m, moreL k = m := ⟨_, rfl⟩
      generalize hb : baseL k = bk at *
      rw [hm] at hst hml
      have HB := Lib.hid hb
      have HST := Lib.hid hst
      have HM := Lib.hid hm
      have HWB := Lib.hid (wrap_base bk m (by omega) (by omega))
      clear hb hst
      by_cases h265 : 265 ≤ k
      · have hme : moreL k = (k - 261) / 4 := if_pos h265
        have hq : ((k : Int) - 261) / 4 = (m : Int) := by omega
        have h265I : (265 : Int) ≤ (k : Int) := by omega
        have hw1 : IntKind.i64.wrap ((k : Int) - 261) = (k : Int) - 261 := IntWalk.i64_in _ (by omega)
        have hm0 : (0 : Int) ≤ (m : Int) := by omega
        have hm5 : (m : Int) ≤ 64 := by omega
        clear hme hm
        by_cases hks2 : k = s
        · subst hks2
          have hv := valR_lt T (some I) m (by omega)
          have HF : Hid (o = moreS bk (numS T (some I) m)) := (HMO.out hlt).trans (by rw [HB.out, HM.out])
          go_wp2_with fail
          refine (rnumber_any b A cap T (some I) m _ _ h hT (by go_num) (by omega)).mono ?_
          rintro e w3 ⟨rfl, hr3, hO3⟩
          generalize hvv : valR (numS T (some I) m) = v at *
          have HVV := Lib.hid hvv
          clear hvv
          go_wp2
          go_ret
          exact rmeasured_more HF.out (by have := HVV.out; omega) hr3 hO3
        · have hnb : ((k : Int) == (s : Int)) = false := by simp; omega
          go_wp2_with fail
          go_roundw
          case rel => exact ⟨k + 1, by go_num, by omega, by omega, by omega, by rw [HST.out]; first | exact congrArg _ (HWB.out) | simp, by first | rfl | trivial⟩
          case measure => simp [intOf]; omega
      · have hme : moreL k = 0 := if_neg h265
        obtain rfl : m = 0 := by omega
        clear hme hm
        by_cases hks2 : k = s
        · subst hks2
          have hv := valR_lt T (some I) 0 (by omega)
          have HF : Hid (o = moreS bk (numS T (some I) 0)) := (HMO.out hlt).trans (by rw [HB.out, HM.out])
          go_wp2_with fail
          refine (rnumber_any b A cap T (some I) 0 _ _ h hT (by go_num) (by omega)).mono ?_
          rintro e w3 ⟨rfl, hr3, hO3⟩
          generalize hvv : valR (numS T (some I) 0) = v at *
          have HVV := Lib.hid hvv
          clear hvv
          go_wp2
          go_ret
          exact rmeasured_more HF.out (by have := HVV.out; omega) hr3 hO3
        · have hnb : ((k : Int) == (s : Int)) = false := by simp; omega
          go_wp2_with fail
          go_roundw
          case rel => exact ⟨k + 1, by go_num, by omega, by omega, by omega, by rw [HST.out]; first | exact congrArg _ (HWB.out) | simp, by first | rfl | trivial⟩
          case measure => simp [intOf]; omega
    · obtain rfl : k = 285 := by omega
      by_cases hs85 : s = 285
      · have HF := Lib.hid (H85.out hs85)
        subst hs85
        go_wp2_with fail
        go_ret
        exact rmeasured_some HF.out rfl h (Only.refl _ _)
      · have HF := Lib.hid (HNO.out (by omega))
        have hnb : ((s : Int) == 285) = false := by simp; omega
        have hx := h.halt 2
        go_wp2_with fail
        go_ret
        exact rmeasured_none HF.out hx ((Only.refl _ _).set (.inl (List.mem_singleton.2 rfl)) _ _)

end Go.Proofs.Ythceefhnmjjddaa
