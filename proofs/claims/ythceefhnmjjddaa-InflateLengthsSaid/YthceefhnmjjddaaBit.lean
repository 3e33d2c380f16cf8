/-
  The reader's bit and number.
-/
import Derived.Test.YthceefhnmjjddaaMem
import Derived.Laws.BitsLemmas
import Derived.Lib.EndianBits
namespace Go.Proofs.Ythceefhnmjjddaa
open Go.RowKit

theorem and1 : ∀ n : Nat, n < 256 → bits .and .u64 (n : Int) 1 = ((n % 2 : Nat) : Int) := by decide +kernel

theorem bit_alive (b : Nat) (A : Option Addr) (cap : Nat) (T : List UInt8) (I : Nat) (w : World) (h : Alive w b A cap T I) (hI : I < 8 * T.length) (hT : T.length ≤ 1048576) :
    Calls Try.prog 16 #[.pointer (some ⟨b, 0, none⟩)] w fun e w' => e = .returned (.int .i64 (bitAt T I : Nat)) ∧ Alive w' b A cap T (I + 1) ∧ Only [b] w w' := by
  obtain ⟨⟨rest, n, hb, hn, hr, hr2⟩, htx, hfar, _⟩ := h
  obtain ⟨k, hk⟩ : ∃ k, (I + 7) / 8 = k := ⟨_, rfl⟩
  rw [hk] at hb hn
  have h0 := hb.cell 0
  have h1 := hb.cell 1
  have h2 := hb.cell 2
  have h3 := hb.cell 3
  have h4 := hb.cell 4
  have f1 := hb.frozen 1
  have f2 := hb.frozen 2
  have f3 := hb.frozen 3
  have f4 := hb.frozen 4
  simp at h0 h1 h2 h3 h4
  rcases n with _ | n
  · obtain ⟨ba, o, rfl, hba, hc⟩ : ∃ ba o, A = some ⟨ba, o, none⟩ ∧ ba < w.heap.size ∧ ∀ i, i < T.length → w.cell? ⟨ba, o + i, none⟩ = some (.int .u8 ((T.getD i 0).toNat : Nat)) := by
      rcases htx with rfl | h
      · simp at hI
      · exact h
    have hbne : ba ≠ b := hfar _ rfl
    have hI8 : I = 8 * k := by omega
    have hkl : k < T.length := by omega
    have hck := hc k hkl
    obtain ⟨x, hx⟩ : ∃ x : UInt8, T.getD k 0 = x := ⟨_, rfl⟩
    rw [hx] at hck
    have hx256 : x.toNat < 256 := x.toNat_lt
    have hne : ((k : Int) == (T.length : Int)) = false := by simp; omega
    have hand := and1 x.toNat hx256
    obtain ⟨y, hy⟩ : ∃ y, x.toNat % 2 = y := ⟨_, rfl⟩
    have hy2 : y < 2 := by rw [← hy]; exact Nat.mod_lt _ (by omega)
    rw [hy] at hand
    have hbit : bitAt T I = y := by
      unfold bitAt
      rw [show I / 8 = k by omega, show I % 8 = 0 by omega, hx]
      simpa using hy
    have HX := Lib.hid hx
    have HK := Lib.hid hk
    have HB := Lib.hid hbit
    have H8 := Lib.hid hI8
    have HTX := Lib.hid htx
    clear hc hr hI htx hy hx hk hbit hI8
    go_enter Try.func16, Try.ntmps16
    go_wp2_with fail
    go_quiet (fail)
    go_wp2_with fail
    go_region
    all_goals go_wp2
    go_ret
    rw [HB.out]
    refine ⟨rfl, ⟨⟨x.toNat / 2, 7, ?_, by have := H8.out; omega, fun _ => ?_, by omega⟩, ?_, hfar, by have := H8.out; omega⟩, ?_⟩
    · have := ((((((hb.drewN (nq + 1)).set_ 2 (.int .u64 x.toNat)).set_ 3 (.int .i64 8)).set_ 1 (.int .i64 ((k : Int) + 1))).set_ 2 (.int .u64 ((x.toNat : Int) / 2))).set_ 3 (.int .i64 7))
      have e : (I + 1 + 7) / 8 = k + 1 := by have := H8.out; omega
      rw [e]
      exact this
    · have h8 := H8.out
      rw [show (I + 1) / 8 = k by omega, show (I + 1) % 8 = 1 by omega, HX.out]
    · exact HTX.out.only ((((((Only.refl [b] w).drewN (nq + 1)).set (by simp) _ _).set (by simp) _ _).set (by simp) _ _).set (by simp) _ _ |>.set (by simp) _ _) (fun a ha => by have := hfar a ha; simpa using this)
    · exact (((((Only.refl [b] w).drewN (nq + 1)).set (by simp) _ _).set (by simp) _ _).set (by simp) _ _).set (by simp) _ _ |>.set (by simp) _ _
  · replace hr := hr (by omega)
    have hand := and1 rest hr2
    obtain ⟨y, hy⟩ : ∃ y, rest % 2 = y := ⟨_, rfl⟩
    have hy2 : y < 2 := by rw [← hy]; exact Nat.mod_lt _ (by omega)
    rw [hy] at hand
    have hbit : bitAt T I = y := by
      unfold bitAt
      rw [← hr]; exact hy
    have hk1 : 1 ≤ k := by omega
    have HK := Lib.hid hk
    have HB := Lib.hid hbit
    have HN := Lib.hid hn
    have HR := Lib.hid hr
    have hn8 : n < 8 := by omega
    have HI := Lib.hid hI
    clear hy hk hbit hn hr hI
    go_enter Try.func16, Try.ntmps16
    go_wp2
    go_ret
    rw [HB.out]
    have e : (I + 1 + 7) / 8 = k := by have := HK.out; have := HN.out; omega
    refine ⟨rfl, ⟨⟨rest / 2, n, ?_, by have := HN.out; omega, fun hn0 => ?_, by omega⟩, ?_, hfar, by have := HI.out; omega⟩, ?_⟩
    · rw [e]
      exact (hb.set_ 2 (.int .u64 ((rest : Int) / 2))).set_ 3 (.int .i64 n)
    · have h1 := HN.out
      rw [HR.out, show (I + 1) / 8 = I / 8 by omega, show (I + 1) % 8 = I % 8 + 1 by omega, Nat.pow_succ, Nat.div_div_eq_div_mul]
    · exact htx.only (((Only.refl [b] w).set (by simp) _ _).set (by simp) _ _) (fun a ha => by have := hfar a ha; simpa using this)
    · exact ((Only.refl [b] w).set (by simp) _ _).set (by simp) _ _

theorem bit_end (b : Nat) (A : Option Addr) (cap : Nat) (T : List UInt8) (I : Nat) (w : World) (h : Alive w b A cap T I) (hI : I = 8 * T.length) :
    Calls Try.prog 16 #[.pointer (some ⟨b, 0, none⟩)] w fun e w' => e = .returned (.int .i64 0) ∧ Dead w' b A cap T ∧ Only [b] w w' := by
  obtain ⟨⟨rest, n, hb, hn, hr, hr2⟩, htx, hfar, _⟩ := h
  rw [show (I + 7) / 8 = T.length by omega] at hb hn
  obtain rfl : n = 0 := by omega
  have h0 := hb.cell 0
  have h1 := hb.cell 1
  have h3 := hb.cell 3
  have h4 := hb.cell 4
  have f4 := hb.frozen 4
  simp at h0 h1 h3 h4
  clear hn hr hI
  go_enter Try.func16, Try.ntmps16
  go_wp2_with fail
  go_quiet (fail)
  go_wp2
  go_ret
  exact ⟨rfl, ⟨_, _, (hb.drewN _).set_ 4 _⟩, ((Only.refl [b] w).drewN _).set (by simp) _ _⟩

theorem bit_dead (b : Nat) (A : Option Addr) (cap : Nat) (T : List UInt8) (w : World) (h : Dead w b A cap T) :
    Calls Try.prog 16 #[.pointer (some ⟨b, 0, none⟩)] w fun e w' => e = .returned (.int .i64 0) ∧ Dead w' b A cap T ∧ Only [b] w w' := by
  obtain ⟨at_, rest, hb⟩ := h
  have h0 := hb.cell 0
  have h1 := hb.cell 1
  have h3 := hb.cell 3
  have h4 := hb.cell 4
  have f4 := hb.frozen 4
  simp at h0 h1 h3 h4
  go_enter Try.func16, Try.ntmps16
  go_wp2_with fail
  go_quiet (fail)
  go_wp2
  go_ret
  exact ⟨rfl, ⟨_, _, (hb.drewN _).set_ 4 _⟩, ((Only.refl [b] w).drewN _).set (by simp) _ _⟩

/-- The reader: ere the I-th bit; or behind a fault. -/
def RAt (w : World) (b : Nat) (A : Option Addr) (cap : Nat) (T : List UInt8) : Option Nat → Prop
  | some I => Alive w b A cap T I
  | none => Dead w b A cap T
theorem bit_any (b : Nat) (A : Option Addr) (cap : Nat) (T : List UInt8) (s : Option Nat) (w : World) (h : RAt w b A cap T s) (hT : T.length ≤ 1048576) :
    Calls Try.prog 16 #[.pointer (some ⟨b, 0, none⟩)] w fun e w' => e = .returned (.int .i64 ((bitS T s).1 : Nat)) ∧ RAt w' b A cap T (bitS T s).2 ∧ Only [b] w w' := by
  match s, h with
  | some I, h =>
    by_cases hI : I < 8 * T.length
    · have e : bitS T (some I) = (bitAt T I, some (I + 1)) := by simp [bitS, hI]
      rw [e]
      exact bit_alive b A cap T I w h hI hT
    · have e : bitS T (some I) = (0, none) := by simp [bitS, hI]
      rw [e]
      exact bit_end b A cap T I w h (by have := Alive.hI h; omega)
  | none, h => exact bit_dead b A cap T w h

theorem wraps_i64 (n : Int) (h₀ : 0 ≤ n) (h₁ : n < 2 ^ 62) : IntKind.i64.wrap n = n := by rw [IntKind.wrap_i64]; omega
theorem or_shift (a c j : Nat) (ha : a < 2 ^ j) (hc : c < 2) (hj : j ≤ 30) : bits .or .i64 (a : Int) (wrap64 ((c : Int) * 2 ^ j)) = ((a + c * 2 ^ j : Nat) : Int) := by
  have hp : 2 ^ j ≤ 2 ^ 30 := Nat.pow_le_pow_right (by omega) hj
  have hc2 : c * 2 ^ j ≤ 1 * 2 ^ j := Nat.mul_le_mul_right _ (by omega)
  have e : (c : Int) * 2 ^ j = ((c * 2 ^ j : Nat) : Int) := by simp
  rw [e, IntWalk.wrap64_in _ (by omega), (bits_nat .i64 62 (by decide) wraps_i64 a (c * 2 ^ j) (by omega) (by omega)).2, Nat.or_comm, Nat.mul_comm c, ← Nat.two_pow_add_eq_or_of_lt ha, Nat.add_comm]

theorem number_any (b : Nat) (A : Option Addr) (cap : Nat) (T : List UInt8) (s : Option Nat) (n : Nat) (k : Int) (w : World) (h : RAt w b A cap T s) (hT : T.length ≤ 1048576) (hk : k = (n : Nat)) (hn : n ≤ 16) :
    Calls Try.prog 17 #[.pointer (some ⟨b, 0, none⟩), .int .i64 k] w fun e w' => e = .returned (.int .i64 ((numS T s n).1 : Nat)) ∧ RAt w' b A cap T (numS T s n).2 ∧ Only [b] w w' := by
  subst hk
  go_enter Try.func17, Try.ntmps17
  go_wp2_with fail
  go_loopw [5, 6, 8] (fun v _ i wr => ∃ j : Nat, i = .int .i64 (j : Nat) ∧ j ≤ n ∧ v = .int .i64 ((numS T s j).1 : Nat) ∧ RAt wr b A cap T (numS T s j).2 ∧ Only [b] w wr) (fun _ _ i _ => n - (intOf i).toNat)
  case atStart => exact ⟨0, rfl, by omega, rfl, h, Only.refl _ _⟩
  case round =>
    obtain ⟨j, rfl, hj, rfl, hr, hO⟩ := hrel
    by_cases hlt : j < n
    · have hb1 := bitS_lt T (numS T s j).2
      have hl := numS_lt T s j
      have hstep : numS T s (j + 1) = ((numS T s j).1 + (bitS T (numS T s j).2).1 * 2 ^ j, (bitS T (numS T s j).2).2) := rfl
      clear h
      go_wp2_with fail
      refine (bit_any _ _ _ _ _ _ hr hT).mono ?_
      rintro e w3 ⟨rfl, hr3, hO3⟩
      generalize (numS T s j).1 = a at *
      generalize (numS T s j).2 = st at *
      generalize (bitS T st).1 = c at *
      generalize (bitS T st).2 = st2 at *
      have hor := or_shift a c j hl hb1 (by omega)
      go_wp2
      go_roundw
      case rel => exact ⟨j + 1, by go_num, by omega, by rw [hstep]; simp, by rw [hstep]; exact hr3, hO.trans hO3⟩
      case measure => simp [intOf]; omega
    · obtain rfl : j = n := by omega
      go_wp2
      go_ret
      exact ⟨rfl, hr, hO⟩

end Go.Proofs.Ythceefhnmjjddaa
