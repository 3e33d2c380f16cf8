/-
  The document's Bits, by a contract.
-/
import Derived.Test.YthceefhnmjjddaaText
import Derived.Test.YthceefhnmjjddaaPack
namespace Go.Proofs.Ythceefhnmjjddaa
open Go.RowKit

/-- A text's bits. -/
def bitsL (T : List UInt8) : List UInt8 := (List.range (8 * T.length)).map fun I => (bitAt T I).toUInt8
theorem bitsL_length (T : List UInt8) : (bitsL T).length = 8 * T.length := by simp [bitsL]
theorem bitsL_take (T : List UInt8) (I : Nat) (h : I < 8 * T.length) : (bitsL T).take (I + 1) = (bitsL T).take I ++ [(bitAt T I).toUInt8] := by
  rw [List.take_succ_eq_append_getElem (by rw [bitsL_length]; exact h)]
  simp [bitsL]
theorem bitsL_get (T : List UInt8) (I : Nat) (h : I < 8 * T.length) : ((bitsL T).getD I 0).toNat = bitAt T I := by
  have hb := bitAt_lt T I
  simp [bitsL, List.getD_eq_getElem?_getD, h]
  omega
theorem and1_u8 : ∀ n : Nat, n < 256 → bits .and .u8 (n : Int) 1 = ((n % 2 : Nat) : Int) := by decide +kernel

theorem cell_src (w : World) (v : Value) (t : TypeId) : Src (w.alloc (.cells #[v] t)) (some ⟨w.heap.size, 0, none⟩) [v] :=
  .inr ⟨_, rfl, one_src ((Blk.new w t #[v]).cell 0)⟩
theorem le63_ {n : Nat} (h : n ≤ 3000000) : n ≤ maxLen ∧ n * 1 ≤ 140737488355328 := by unfold maxLen; omega
theorem one_u8 (k : Int) : ∀ u ∈ [Value.int .u8 k], u.oneCell' = true := by intro u hu; rw [List.mem_singleton] at hu; subst hu; rfl
theorem bitsL_own {w : World} {B I c : Nat} {v : Value} {T : List UInt8} (h : w.ownsRow B 5 1 v (I + 1) (bytesV ((bitsL T).take I) ++ [.int .u8 (c : Nat)])) (hI : I < 8 * T.length) (hc : c = bitAt T I) : w.ownsRow B 5 1 v (I + 1) (bytesV ((bitsL T).take (I + 1))) := by
  have hb := bitAt_lt T I
  have e : (bitAt T I).toUInt8.toNat = c := by simp; omega
  rw [bitsL_take T I hI, bytesV_append]
  have e2 : bytesV [(bitAt T I).toUInt8] = [.int .u8 (c : Nat)] := by show [Value.int .u8 _] = _; rw [e]
  rw [e2]
  exact h

set_option maxHeartbeats 1000000 in
set_option maxRecDepth 100000 in
theorem bits_any (A : Option Addr) (cap : Nat) (T : List UInt8) (w : World) (h : BytesAt w A T) (hT : T.length ≤ 65536) :
    Calls Try.prog 22 #[.slice A T.length cap] w fun e w' => ∃ v, e = .returned v ∧ w'.ownsRow w.heap.size 5 1 v (bitsL T).length (bytesV (bitsL T)) ∧ Below w.heap.size w w' := by
  obtain ⟨i0, hi, hz0, hz1, hz2⟩ := info_parts info5
  go_enter Try.func22, Try.ntmps22
  go_wp2
  go_loopw [3, 10] (fun v i wr => ∃ k : Nat, i = .int .i64 (k : Nat) ∧ k ≤ T.length ∧ wr.ownsRow w.heap.size 5 1 v (8 * k) (bytesV ((bitsL T).take (8 * k))) ∧ Below w.heap.size w wr) (fun _ i _ => T.length - (intOf i).toNat)
  case atStart => exact ⟨0, rfl, by omega, ownsRow_empty (heap_alloc_new w _) (Nat.le_refl _), (Below.refl _ w).alloc (Nat.le_refl _) _⟩
  case round =>
    obtain ⟨k, rfl, hk, hown, hbel⟩ := hrel
    by_cases hlt : k < T.length
    · rcases h with rfl | ⟨b, o, rfl, hb, hc⟩
      · simp at hlt
      · have hcell := (hbel.cell (p := ⟨b, o + k, none⟩) hb).trans (hc k hlt)
        obtain ⟨x, hx⟩ : ∃ x, T.getD k 0 = x := ⟨_, rfl⟩
        rw [hx] at hcell
        have HX := Lib.hid hx
        have HC := Lib.hid hc
        clear hc hx
        obtain ⟨wo, rfl⟩ : ∃ wo : World, wo = wr := ⟨_, rfl⟩
        go_wp2_with fail
        go_loopw [3, 6] (fun v i wr => ∃ j : Nat, i = .int .i64 (j : Nat) ∧ j ≤ 8 ∧ wr.ownsRow w.heap.size 5 1 v (8 * k + j) (bytesV ((bitsL T).take (8 * k + j))) ∧ Below w.heap.size w wr) (fun _ i _ => 8 - (intOf i).toNat)
        case atStart => exact ⟨0, rfl, by omega, hown, hbel⟩
        case round =>
          clear hown hbel hcell
          obtain ⟨j, rfl, hj, hown, hbel⟩ := hrel
          by_cases hj8 : j < 8
          · have hjI : (j : Int) < 8 := by omega
            have hjI2 : (j : Int) ≤ 8 := by omega
            have hand : bits .and .u8 ((x.toNat : Int) / 2 ^ j) 1 = ((x.toNat / 2 ^ j % 2 : Nat) : Int) := by
              rw [← and1_u8 (x.toNat / 2 ^ j) (by have := x.toNat_lt; exact Nat.lt_of_le_of_lt (Nat.div_le_self _ _) this)]
              simp
            obtain ⟨A3, c3, rfl⟩ := own_slice hown
            have hbit : x.toNat / 2 ^ j % 2 = bitAt T (8 * k + j) := by rw [← HX.out]; exact (bitAt_byte T k j hj8).symm
            obtain ⟨c, hcc⟩ : ∃ c, x.toNat / 2 ^ j % 2 = c := ⟨_, rfl⟩
            rw [hcc] at hand hbit
            have HB := Lib.hid hbit
            have hbs := hbel.size
            clear hcc hbit
            have hone := Lib.hid (one_u8 (c : Nat))
            have h63 := Lib.hid (le63_ (show 8 * k + j + 1 ≤ 3000000 by omega))
            have hown1 := hown.alloc (.cells #[.int .u8 (c : Nat)] 5)
            have hsrc := cell_src wr (.int .u8 (c : Nat)) 5
            clear hown
            go_wp2_with (at_builtin; go_loud (refine wpList_append_src _ rfl (.tmp 18) (.tmp 23) 22 rfl w.heap.size 5 i0 (.int .u8 0) 1 1 Try.underlying22 hi hz0 hz1 hz2 rfl (by decide) (.slice A3 (8 * k + j) c3) (8 * k + j) (bytesV ((bitsL T).take (8 * k + j))) rfl hown1 (some ⟨wr.heap.size, 0, none⟩) 1 1 [.int .u8 (c : Nat)] rfl rfl hsrc hone.out h63.out.1 h63.out.2 (by simp; omega) ?_; intro v' w5 hown5 hgrow5; have hbel5 := (hbel.alloc hbs _).grown hgrow5 (by simp; omega) (fun k hk => (hown1.lt k hk).1)))
            have hown6 := bitsL_own hown5 (by omega) HB.out
            clear hgrow5 hown1 hsrc hown5
            go_roundw
            case rel => exact ⟨j + 1, by go_num, by omega, hown6, hbel5⟩
            case measure => simp [intOf]; omega
          · obtain rfl : j = 8 := by omega
            go_wp2
            go_roundw
            case rel => exact ⟨k + 1, by go_num, by omega, hown, hbel⟩
            case measure => simp [intOf]; omega
    · obtain rfl : k = T.length := by omega
      rw [List.take_of_length_le (by rw [bitsL_length]; exact Nat.le_refl _)] at hown
      go_wp2
      go_ret
      exact ⟨_, rfl, by rw [bitsL_length]; exact hown, hbel⟩

end Go.Proofs.Ythceefhnmjjddaa
