/-
  The reference's Encode, by a contract; that the program's and the reference's words on what may stand are one.
-/
import Derived.Test.YtdmgbcpdkmljmaaEncode
namespace Go.Proofs.Ytdmgbcpdkmljmaa
open Go.RowKit

theorem stands_one : ∀ n : Nat, n < 256 → refStands n.toUInt8 1 = standsB 1 n.toUInt8 := by decide +kernel
theorem stands_two : ∀ n : Nat, n < 256 → refStands n.toUInt8 2 = standsB 2 n.toUInt8 := by decide +kernel
theorem stands_zero : ∀ n : Nat, n < 256 → refStands n.toUInt8 0 = standsB 0 n.toUInt8 := by decide +kernel
theorem stands_same (p : Int) (b : UInt8) : refStands b p = standsB p b := by
  have hb : b.toNat.toUInt8 = b := by simp
  by_cases h1 : p = 1
  · subst h1; have := stands_one b.toNat b.toNat_lt; rwa [hb] at this
  · by_cases h2 : p = 2
    · subst h2; have := stands_two b.toNat b.toNat_lt; rwa [hb] at this
    · have h := stands_zero b.toNat b.toNat_lt
      rw [hb] at h
      have e1 : refStands b p = refStands b 0 := by
        have a1 : (p == 1) = false := by simpa using h1
        have a2 : (p == 2) = false := by simpa using h2
        unfold refStands; rw [a1, a2]; rfl
      have e2 : ownS p = ownS 0 := by unfold ownS; rw [if_neg h1, if_neg h2]; rfl
      have e3 : standsB p b = standsB 0 b := by unfold standsB; rw [e2]
      rw [e1, e3, h]

theorem hexL_length (n : Nat) : (hexL n).length = 2 := rfl

theorem append_mk (L M : List UInt8) : (ByteArray.mk L.toArray ++ ByteArray.mk M.toArray) = ByteArray.mk (L ++ M).toArray := ByteArray.mk_append_mk L M

theorem hex_list (n : Nat) (w : World) (hn : n < 256) :
    Calls Try.prog 19 #[.int .u8 (n : Nat)] w fun e w' => e = .returned (.string ⟨(hexL n).toArray⟩) ∧ ∃ q, w' = w.drewN q := by
  rw [← hexS_eq n hn]
  exact hex_any n w hn

set_option maxHeartbeats 400000 in
set_option maxRecDepth 100000 in
theorem refEncode_any (s : ByteArray) (p : Int) (w : World) (hs : s.size ≤ 65536) :
    Calls Try.prog 9 #[.string s, .int .i64 p] w fun e w' => e = .returned (.string ⟨(encL p s.data.toList).toArray⟩) ∧ ∃ q, w' = w.drewN q := by
  go_enter Try.func9, Try.ntmps9
  go_wp2
  go_loopw [5, 6] (fun v i wr => ∃ k : Nat, k ≤ s.size ∧ i = .int .i64 (k : Nat) ∧ v = .string ⟨(encL p (s.data.toList.take k)).toArray⟩ ∧ ∃ q, wr = w.drewN q) (fun _ i _ => s.size - (intOf i).toNat)
  case atStart => exact ⟨0, Nat.zero_le _, rfl, rfl, 0, rfl⟩
  case round =>
    obtain ⟨k, hk, rfl, rfl, q, rfl⟩ := hrel
    by_cases hlt : k < s.size
    · have htk := encL_snoc p (s.data.toList.take k) s[k]
      rw [← take_snoc s k hlt] at htk
      have HTK := Lib.hid htk
      clear htk
      have hle := encL_length p (s.data.toList.take k)
      have htl : (s.data.toList.take k).length ≤ k := List.length_take_le _ _
      generalize encL p (s.data.toList.take k) = L at HTK hle
      have hL : L.length ≤ 196608 := by omega
      clear hle htl
      by_cases hst : standsB p s[k] = true
      · have hr : refStands s[k] p = true := by rw [stands_same]; exact hst
        have HE := Lib.hid (show encB p s[k] = [s[k]] by unfold encB; rw [if_pos hst])
        have HA := Lib.hid (append_at L s k hlt)
        clear hst
        go_wp2_with fail
        refine (stands_any s[k] p _).mono ?_
        rintro e w' ⟨rfl, rfl⟩
        go_wp2_with fail
        exact ⟨⟨k + 1, by omega, by go_num, by rw [HTK.out, HE.out, HA.out], q, rfl⟩, by simp [intOf]; omega⟩
      · have hr : refStands s[k] p = false := by rw [stands_same]; simpa using hst
        have HE := Lib.hid (show encB p s[k] = 37 :: hexL s[k].toNat by unfold encB; rw [if_neg hst])
        clear hst
        have hxl : (hexL s[k].toNat).length ≤ 2 := Nat.le_refl _
        go_wp2_with fail
        refine (stands_any s[k] p _).mono ?_
        rintro e w' ⟨rfl, rfl⟩
        go_wp2_with fail
        refine (hex_list s[k].toNat _ (s[k].toNat_lt)).mono ?_
        rintro e w' ⟨rfl, q1, rfl⟩
        go_wp2
        exact ⟨⟨k + 1, by omega, by go_num, by rw [HTK.out, HE.out, append_one, append_mk, List.append_assoc]; rfl, _, rfl⟩, by simp [intOf]; omega⟩
    · go_wp2
      go_ret
      have : k = s.size := by omega
      subst this
      rw [List.take_of_length_le (by simp)]
      exact ⟨rfl, _, rfl⟩

end Go.Proofs.Ytdmgbcpdkmljmaa
