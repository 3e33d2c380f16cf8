/-
  Hex, Lower, own, write: each by a contract.
-/
import Derived.Test.YtdmgbcpdkmljmaaMem
namespace Go.Proofs.Ytdmgbcpdkmljmaa
open Go.RowKit

def D16 : ByteArray := ⟨#[48, 49, 50, 51, 52, 53, 54, 55, 56, 57, 65, 66, 67, 68, 69, 70]⟩
def hexS (n : Nat) : ByteArray := D16.extract (n / 16) (n / 16 + 1) ++ D16.extract (n % 16) (n % 16 + 1)

theorem hex_any (n : Nat) (w : World) (hn : n < 256) :
    Calls Try.prog 19 #[.int .u8 (n : Nat)] w fun e w' => e = .returned (.string (hexS n)) ∧ ∃ q, w' = w.drewN q := by
  have b1 : (n : Int) / 16 + 1 ≤ 16 := by omega
  have b0 : (0 : Int) ≤ (n : Int) / 16 := by omega
  have b2 : (n : Int) % 16 + 1 ≤ 16 := by omega
  have b3 : (0 : Int) ≤ (n : Int) % 16 := by omega
  have e0 : IntKind.u8.wrap ((n : Int).tdiv 16) = (n : Int) / 16 := IntWalk.u8_quo _ _ (by omega)
  have e1 : IntKind.u8.wrap ((n : Int) / 16 + 1) = (n : Int) / 16 + 1 := IntWalk.u8_in _ (by omega)
  have e2 : (n : Int).tmod 16 = (n : Int) % 16 := Int.tmod_eq_emod_of_nonneg (by omega)
  have e3 : IntKind.u8.wrap ((n : Int) % 16 + 1) = (n : Int) % 16 + 1 := IntWalk.u8_in _ (by omega)
  go_enter Try.func19, Try.ntmps19
  go_wp2_with fail
  go_quiet (fail)
  go_wp2
  go_ret
  exact ⟨rfl, _, rfl⟩

/-- A hexadecimal digit, great. -/
def hx (k : Nat) : UInt8 := (if k < 10 then 48 + k else 55 + k).toUInt8
def hexL (n : Nat) : List UInt8 := [hx (n / 16), hx (n % 16)]
theorem hexS_eq : ∀ n, n < 256 → hexS n = ⟨(hexL n).toArray⟩ := by decide +kernel

/-- A letter made small. -/
def lowB (c : UInt8) : UInt8 := if 65 ≤ c && c ≤ 90 then c + 32 else c
def ABC : ByteArray := ⟨#[97, 98, 99, 100, 101, 102, 103, 104, 105, 106, 107, 108, 109, 110, 111, 112, 113, 114, 115, 116, 117, 118, 119, 120, 121, 122]⟩
theorem abc_at : ∀ n, n < 26 → ABC.extract n (n + 1) = ⟨#[(97 + n).toUInt8]⟩ := by decide +kernel

theorem append_one (L : List UInt8) (c : UInt8) : (ByteArray.mk L.toArray ++ ByteArray.mk #[c]) = ByteArray.mk (L ++ [c]).toArray := by
  apply ByteArray.ext
  simp [ByteArray.data_append]
theorem append_at (L : List UInt8) (s : ByteArray) (k : Nat) (h : k < s.size) : (ByteArray.mk L.toArray ++ s.extract k (k + 1)) = ByteArray.mk (L ++ [s[k]]).toArray := by
  rw [← append_one]
  congr 1
  apply ByteArray.ext
  rw [ByteArray.data_extract]
  apply Array.ext_getElem?
  intro i
  rw [Array.getElem?_extract]
  have hs : s.data.size = s.size := rfl
  by_cases hi : i = 0
  · subst hi
    rw [if_pos (by omega)]
    simp [hs, h]
    rfl
  · rw [if_neg (by omega)]
    simp; omega

/-- The text made small, up to its k-th byte. -/
def lowTo (s : ByteArray) (k : Nat) : List UInt8 := (s.data.toList.take k).map lowB
theorem lowTo_length (s : ByteArray) (k : Nat) (h : k ≤ s.size) : (lowTo s k).length = k := by
  have hs : s.data.size = s.size := rfl
  simp [lowTo]; omega
theorem lowTo_succ (s : ByteArray) (k : Nat) (h : k < s.size) : lowTo s (k + 1) = lowTo s k ++ [lowB s[k]] := by
  unfold lowTo; rw [take_snoc s k h, List.map_append]; rfl
theorem low_keep (s : ByteArray) (k : Nat) (h : k < s.size) (hc : (s[k].toNat : Int) < 65 ∨ (90 : Int) < s[k].toNat) : (ByteArray.mk (lowTo s k).toArray ++ s.extract k (k + 1)) = ByteArray.mk (lowTo s (k + 1)).toArray := by
  rw [append_at _ s k h, lowTo_succ s k h]
  have : lowB s[k] = s[k] := by
    unfold lowB
    rw [if_neg]
    simp only [Bool.and_eq_true, decide_eq_true_eq, UInt8.le_iff_toNat_le]
    intro ⟨h1, h2⟩
    have e1 : (65 : UInt8).toNat = 65 := rfl
    have e2 : (90 : UInt8).toNat = 90 := rfl
    omega
  rw [this]
theorem low_turn (s : ByteArray) (k : Nat) (h : k < s.size) (h1 : (65 : Int) ≤ s[k].toNat) (h2 : (s[k].toNat : Int) ≤ 90) :
    (ByteArray.mk (lowTo s k).toArray ++ ABC.extract (s[k].toNat - 65) (s[k].toNat - 64)) = ByteArray.mk (lowTo s (k + 1)).toArray := by
  have e : s[k].toNat - 64 = (s[k].toNat - 65) + 1 := by omega
  rw [e, abc_at _ (by omega), append_one, lowTo_succ s k h]
  have hb : lowB s[k] = (97 + (s[k].toNat - 65)).toUInt8 := by
    unfold lowB
    rw [if_pos]
    · apply UInt8.toNat_inj.1
      rw [UInt8.toNat_add]
      have e1 : (32 : UInt8).toNat = 32 := rfl
      simp; omega
    · simp only [Bool.and_eq_true, decide_eq_true_eq, UInt8.le_iff_toNat_le]
      have e1 : (65 : UInt8).toNat = 65 := rfl
      have e2 : (90 : UInt8).toNat = 90 := rfl
      omega
  rw [hb]

set_option maxRecDepth 100000 in
theorem lower_any (s : ByteArray) (w : World) (hs : s.size ≤ 1048576) :
    Calls Try.prog 29 #[.string s] w fun e w' => e = .returned (.string ⟨(lowTo s s.size).toArray⟩) ∧ ∃ q, w' = w.drewN q := by
  go_enter Try.func29, Try.ntmps29
  go_wp2
  go_loopw [3, 4] (fun v i wr => ∃ k : Nat, k ≤ s.size ∧ i = .int .i64 (k : Nat) ∧ v = .string ⟨(lowTo s k).toArray⟩ ∧ ∃ q, wr = w.drewN q) (fun _ i _ => s.size - (intOf i).toNat)
  case atStart => exact ⟨0, Nat.zero_le _, rfl, rfl, 0, rfl⟩
  case round =>
    obtain ⟨k, hk, rfl, rfl, q, rfl⟩ := hrel
    by_cases hlt : k < s.size
    · have hL := lowTo_length s k hk
      have hLs : (ByteArray.mk (lowTo s k).toArray).size ≤ 1048576 := by show (lowTo s k).toArray.size ≤ _; simp; omega
      by_cases hc : (65 : Int) ≤ s[k].toNat ∧ (s[k].toNat : Int) ≤ 90
      · have hT := Lib.hid (low_turn s k hlt hc.1 hc.2)
        obtain ⟨h1, h2⟩ := hc
        have HL : (lowTo s k).length ≤ 1048576 := by omega
        clear hL hLs
        have hadd : (lowTo s k).length + (min (s[k].toNat - 64) 26 - (s[k].toNat - 65)) ≤ 9223372036854775807 := by omega
        have e1 : IntKind.u8.wrap ((s[k].toNat : Int) - 65) = (s[k].toNat : Int) - 65 := IntWalk.u8_in _ (by omega)
        have e2 : IntKind.u8.wrap ((s[k].toNat : Int) - 64) = (s[k].toNat : Int) - 64 := IntWalk.u8_in _ (by omega)
        have e3 : ((s[k].toNat : Int) - 65).toNat = s[k].toNat - 65 := by omega
        have e4 : ((s[k].toNat : Int) - 64).toNat = s[k].toNat - 64 := by omega
        have b1 : (0 : Int) ≤ (s[k].toNat : Int) - 65 := by omega
        have b2 : (s[k].toNat : Int) - 65 ≤ (s[k].toNat : Int) - 64 := by omega
        have b3 : (s[k].toNat : Int) - 64 ≤ 26 := by omega
        go_wp2_with fail
        go_quiet (fail)
        clear e1 e2 e3 e4 b1 b2 b3
        go_wp2
        exact ⟨⟨k + 1, by omega, by go_num, congrArg Value.string hT.out, _, rfl⟩, by simp [intOf]; omega⟩
      · have h : (s[k].toNat : Int) < 65 ∨ (90 : Int) < s[k].toNat := by omega
        have hT := Lib.hid (low_keep s k hlt h)
        have HL : (lowTo s k).length ≤ 1048576 := by omega
        clear hL hc hLs
        rcases h with h | h
        · go_wp2
          exact ⟨⟨k + 1, by omega, by go_num, congrArg Value.string hT.out, _, rfl⟩, by simp [intOf]; omega⟩
        · have h' : (65 : Int) ≤ s[k].toNat := by omega
          go_wp2
          exact ⟨⟨k + 1, by omega, by go_num, congrArg Value.string hT.out, _, rfl⟩, by simp [intOf]; omega⟩
    · go_wp2
      go_ret
      have : k = s.size := by omega
      subst this
      exact ⟨rfl, _, rfl⟩

def ownS (p : Int) : ByteArray :=
  if p = 1 then ⟨#[47, 58, 64, 33, 36, 38, 39, 40, 41, 42, 43, 44, 59, 61]⟩ else if p = 2 then ⟨#[47, 58, 64, 33, 36, 38, 39, 40, 41, 42, 43, 44, 59, 61, 63]⟩ else ⟨#[]⟩

theorem ownS_any (p : Int) (w : World) : Calls Try.prog 14 #[.int .i64 p] w fun e w' => e = .returned (.string (ownS p)) ∧ w = w' := by
  go_enter Try.func14, Try.ntmps14
  go_wp2
  all_goals go_ret
  all_goals exact ⟨ret_string (by simp only [beq_iff_eq, beq_eq_false_iff_ne, ne_eq] at *; simp [ownS, *]), rfl⟩

end Go.Proofs.Ytdmgbcpdkmljmaa
