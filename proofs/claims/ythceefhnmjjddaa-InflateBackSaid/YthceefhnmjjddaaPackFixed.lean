/-
  'Fixed': packed in one fixed block.
-/
import Derived.Test.YthceefhnmjjddaaPackWord
namespace Go.Proofs.Ythceefhnmjjddaa
open Go.RowKit

theorem byteBits_snoc (l : List UInt8) (i : Nat) (h : i < l.length) : byteBits (l.take i) ++ codeBits (fixN (l.getD i 0)) (fixC (l.getD i 0)) = byteBits (l.take (i + 1)) := by
  rw [List.take_succ_eq_append_getElem h]
  unfold byteBits
  rw [List.flatMap_append]
  simp [List.getD_eq_getElem?_getD, h]
theorem byteBits_take_len (l : List UInt8) (i : Nat) (h : l.length ≤ 3000) : ([1, 1, 0] ++ byteBits (l.take i)).length ≤ 28000 := by
  have := (byteBits_len (l.take i)).2
  have h2 : (l.take i).length ≤ l.length := by rw [List.length_take]; omega
  simp only [List.length_append, List.length_cons, List.length_nil]
  omega
theorem packing_below {B pb base : Nat} {bs : List Nat} {w w' : World} (h : Packing B pb base bs w w') : Below B w w' := by
  obtain ⟨_, _, _, _, _, h⟩ := h
  exact h

set_option maxHeartbeats 1000000 in
set_option maxRecDepth 100000 in
theorem packfixed_any (A : Option Addr) (l : List UInt8) (n cap : Nat) (w : World) (h : BytesAt w A l) (hn : n = l.length) (hl : n ≤ 3000) :
    Calls Try.prog 15 #[.slice A n cap] w fun e w' => ∃ v, e = .returned v ∧ w'.ownsRow w.heap.size 5 1 v (textOf (fixBits l)).length (bytesV (textOf (fixBits l))) ∧ Below w.heap.size w w' := by
  subst hn
  have hstart : Packing w.heap.size w.heap.size (w.heap.size + 1) [] w (w.alloc (.cells #[.slice none 0 0, .int .i64 0] 73)) :=
    ⟨_, Blk.new _ _ _, fun I => by simp, World.ownsRow_nil _ _ _ _, by simp, (Below.refl _ w).alloc (Nat.le_refl _) _⟩
  have hBB : w.heap.size ≤ w.heap.size + 1 ∧ w.heap.size ≤ w.heap.size := by omega
  go_enter Try.func15, Try.ntmps15
  go_wp2_with fail
  refine (packbit_v _ _ _ _ 1 _ w _ hstart hBB rfl (by omega) (by simp)).mono ?_
  rintro e w1 ⟨rfl, hp1⟩
  clear hstart
  go_wp2_with fail
  refine (packbit_v _ _ _ _ 1 _ w _ hp1 hBB rfl (by omega) (by simp)).mono ?_
  rintro e w2 ⟨rfl, hp2⟩
  clear hp1
  go_wp2_with fail
  refine (packbit_v _ _ _ _ 0 _ w _ hp2 hBB rfl (by omega) (by simp)).mono ?_
  rintro e w3 ⟨rfl, hp3⟩
  clear hp2
  go_wp2_with fail
  go_loopw [16] (fun i wr => ∃ j : Nat, i = .int .i64 (j : Nat) ∧ j ≤ l.length ∧ Packing w.heap.size w.heap.size (w.heap.size + 1) ([1, 1, 0] ++ byteBits (l.take j)) w wr) (fun i _ => l.length - (intOf i).toNat)
  case atStart => exact ⟨0, rfl, Nat.zero_le _, hp3⟩
  case round =>
    clear hp3
    obtain ⟨j, rfl, hj, hp⟩ := hrel
    have hlen := byteBits_take_len l j hl
    by_cases hlt : j < l.length
    · obtain ⟨b, o, rfl, hb, hc⟩ := h.resolve_left (fun e => by subst e; simp at hlt)
      have hcell := ((packing_below hp).cell (p := ⟨b, o + j, none⟩) hb).trans (hc j hlt)
      have hsn := Lib.hid (byteBits_snoc l j hlt)
      have HC := Lib.hid hc
      clear hc
      generalize l.getD j 0 = x at *
      have hx := x.toNat_lt
      by_cases hx1 : x.toNat < 144
      · have hxI : (x.toNat : Int) < 144 := by omega
        have hN : fixN x = 8 := by unfold fixN; rw [if_pos hx1]
        have hC : fixC x = x.toNat + 48 := by unfold fixC; rw [if_pos hx1]
        go_wp2_with fail
        refine (word_any _ _ _ _ (x.toNat + 48) 8 _ _ w _ hp hBB (by first | rfl | go_num) rfl (by omega) (by omega) (by omega)).mono ?_
        rintro e w5 ⟨rfl, hp5⟩
        have h5 := hsn.out
        rw [hN, hC] at h5
        rw [List.append_assoc, h5] at hp5
        go_wp2
        go_roundw
        case rel => exact ⟨j + 1, by go_num, by omega, hp5⟩
        case measure => simp [intOf]; omega
      · have hxI : ¬ (x.toNat : Int) < 144 := by omega
        have hN : fixN x = 9 := by unfold fixN; rw [if_neg hx1]
        have hC : fixC x = x.toNat - 144 + 400 := by unfold fixC; rw [if_neg hx1]
        go_wp2_with fail
        refine (word_any _ _ _ _ (x.toNat - 144 + 400) 9 _ _ w _ hp hBB (by omega) rfl (by omega) (by omega) (by omega)).mono ?_
        rintro e w5 ⟨rfl, hp5⟩
        have h5 := hsn.out
        rw [hN, hC] at h5
        rw [List.append_assoc, h5] at hp5
        go_wp2
        go_roundw
        case rel => exact ⟨j + 1, by go_num, by omega, hp5⟩
        case measure => simp [intOf]; omega
    · obtain rfl : j = l.length := by omega
      go_wp2_with fail
      refine (word_any _ _ _ _ 0 7 _ _ w _ hp hBB rfl rfl (by omega) (by omega) (by omega)).mono ?_
      rintro e w5 ⟨rfl, hp5⟩
      rw [List.take_length, List.append_assoc] at hp5
      obtain ⟨v, hbl, _, hown, _, hbel⟩ := hp5
      have hc0 := hbl.cell 0
      simp at hc0
      go_wp2
      go_ret
      exact ⟨v, rfl, own_base hown (by omega), hbel⟩

end Go.Proofs.Ythceefhnmjjddaa
