/-
  'cordonlaw39.InflateLong' returns true whatever the number and the byte; what was there stays as it was.
-/
import Derived.Test.YthceefhnmjjddaaPacked
import Derived.Test.YthceefhnmjjddaaLives
namespace Go.Proofs.Ythceefhnmjjddaa
open Go.RowKit

def fillV (k n : Nat) (x : UInt8) : List Value := List.replicate k (.int .u8 (x.toNat : Nat)) ++ List.replicate (n - k) (.int .u8 0)
theorem fillV_length {k n : Nat} (x : UInt8) (h : k ≤ n) : (fillV k n x).length = n := by simp [fillV]; omega
theorem fillV_set {k n : Nat} (x : UInt8) (h : k < n) : (fillV k n x).toArray.setIfInBounds k (.int .u8 (x.toNat : Nat)) = (fillV (k + 1) n x).toArray := by
  apply Array.ext'
  simp only [Array.toList_setIfInBounds, fillV]
  rw [List.set_append_right _ _ (by simp)]
  simp only [List.length_replicate, Nat.sub_self]
  obtain ⟨m, hm⟩ : ∃ m, n - k = m + 1 := ⟨n - k - 1, by omega⟩
  rw [hm, show n - (k + 1) = m by omega, List.replicate_succ, List.set_cons_zero, List.replicate_succ']
  simp
theorem fill_bytes {w : World} {g n : Nat} {x : UInt8} (h : w.heap[g]? = some (.cells (fillV n n x).toArray 5 (0, 0))) : BytesAt w (some ⟨g, 0, none⟩) (List.replicate n x) := by
  refine .inr ⟨g, 0, rfl, (Array.getElem?_eq_some_iff.1 h).1, fun i hi => ?_⟩
  rw [Nat.zero_add, cell_of_row _ _ _ _ _ _ h, List.getElem?_toArray]
  simp at hi
  simp [fillV, hi]

theorem stored_pack_n (A : Option Addr) (l : List UInt8) (n cap : Nat) (w : World) (h : BytesAt w A l) (hn : n = l.length) (hA0 : A = none → cap = 0) (hc : n ≤ cap) (hl : n ≤ 1048576) :
    Calls Try.prog 12 #[.slice A n cap] w fun e w' => ∃ v, e = .returned v ∧ w'.ownsRow w.heap.size 5 1 v (packS l).length (bytesV (packS l)) ∧ Below w.heap.size w w' := by
  subst hn; exact stored_pack A l cap w h hA0 hc hl
theorem inflate_own {w : World} {base : Nat} {v : Value} {l : List UInt8} (h : w.ownsRow base 5 1 v l.length (bytesV l)) (hl : l.length ≤ 1048576) : Calls Try.prog 9 #[v] w (Inflated (inflateS l) w) := by
  obtain ⟨A, c, hv, hB, _⟩ := BytesAt.of_own h
  subst hv
  exact inflate_any A c l w hB (fun a ha => by
    subst ha
    obtain ⟨bb, oo, sp⟩ := a
    exact (h.lt bb rfl).2) hl
theorem inflated_nil {w w' : World} {e : Ending} {o : Except Int (List UInt8 × Nat)} {k : Int} (ho : o = .error k) (h : Inflated o w e w') : e = .returned (.tuple #[.slice none 0 0, .int .i64 0, .int .i64 k]) ∧ Below w.heap.size w w' := by
  subst ho; exact ⟨h.2.1, h.1⟩
theorem inflated_yes {w w' : World} {e : Ending} {o : Except Int (List UInt8 × Nat)} {l : List UInt8} {I : Nat} (ho : o = .ok (l, I)) (h : Inflated o w e w') : ∃ A c, e = .returned (.tuple #[.slice A l.length c, .int .i64 ((I + 7) / 8 : Nat), .int .i64 0]) ∧ BytesAt w' A l ∧ Below w.heap.size w w' := by
  subst ho
  obtain ⟨hb, v, he, hown, _⟩ := h
  obtain ⟨A, c, hv, hB, _⟩ := BytesAt.of_own hown
  exact ⟨A, c, by rw [he, hv], hB, hb⟩

set_option maxHeartbeats 1000000 in
set_option maxRecDepth 100000 in
theorem long_any (n : Int) (x : UInt8) (w : World) :
    Calls Try.prog 5 #[.int .i64 n, .int .u8 (x.toNat : Nat)] w fun e w' => e = .returned (.bool true) ∧ Below w.heap.size w w' := by
  obtain ⟨i0, hi, hz0, hz1, hz2⟩ := info_parts info5
  obtain ⟨m, hm, hm5⟩ : ∃ m : Nat, (IntKind.u64.wrap n).tmod 5 = (m : Int) ∧ m < 5 := by
    have h0 : 0 ≤ IntKind.u64.wrap n := by rw [IntKind.wrap_u64]; omega
    refine ⟨((IntKind.u64.wrap n).tmod 5).toNat, ?_, ?_⟩
    · rw [Int.tmod_eq_emod_of_nonneg h0]; omega
    · rw [Int.tmod_eq_emod_of_nonneg h0]; omega
  obtain ⟨N, hN⟩ : ∃ N : Nat, 65534 + (m : Int) = (N : Int) := ⟨65534 + m, by omega⟩
  have hN1 : 65534 ≤ N := by omega
  have hN2 : N ≤ 65538 := by omega
  have hM5 : (m : Int) < 5 := by omega
  go_enter Try.func5, Try.ntmps5
  go_wp2_with fail
  refine (lives_any _).mono ?_
  rintro e w1 ⟨rfl, hb1⟩
  go_wp2_with (refine wpList_make_full _ rfl (.tmp 17) (.tmp 17) 22 rfl w1.heap.size 5 i0 (.int .u8 0) 1 Try.underlying22 hi hz0 hz1 .i64 .i64 _ _ N rfl rfl rfl rfl (by rw [hz2]; omega) (by unfold maxLen; omega) (Nat.le_refl _) ?_; intro w2 hown2 hgrow2)
  clear hm hN
  have hb2 := hb1.grown hgrow2 hb1.size (by simp)
  have hrow2 : w2.heap[w1.heap.size]? = some (.cells (fillV 0 N x).toArray 5 (0, 0)) := own_full hown2 _ (by simp only [Value.cells, Nat.mul_one]; rw [toList_madeCells_one]; simp [fillV])
  clear hown2 hgrow2
  go_wp2
  go_loopw [21] (fun i wr => ∃ k : Nat, i = .int .i64 (k : Nat) ∧ k ≤ N ∧ wr.heap[w1.heap.size]? = some (.cells (fillV k N x).toArray 5 (0, 0)) ∧ Below w.heap.size w wr) (fun i _ => N - (intOf i).toNat)
  case atStart => exact ⟨0, rfl, by omega, hrow2, hb2⟩
  case round =>
    clear hrow2 hb2
    obtain ⟨k, rfl, hk, hrow, hb⟩ := hrel
    by_cases hlt : k < N
    · have hcell := cell_of_row wr w1.heap.size k _ _ _ hrow
      rw [List.getElem?_toArray, List.getElem?_eq_getElem (by rw [fillV_length x hk]; exact hlt)] at hcell
      generalize (fillV k N x)[k]'_ = old at hcell
      have hfr := frozen_of_row wr w1.heap.size k _ _ hrow
      have hset := heap_setCell_same wr w1.heap.size k _ 5 (.int .u8 (x.toNat : Nat)) hrow
      rw [fillV_set x hlt] at hset
      have HSET := Lib.hid hset
      clear hrow hset
      go_wp2
      go_roundw
      case rel => exact ⟨k + 1, by go_num, by omega, HSET.out, hb.setCell (by have := hb1.size; simpa using this) _⟩
      case measure => simp [intOf]; omega
    · obtain rfl : k = N := by omega
      have hB := fill_bytes hrow
      clear hrow
      have hpl := packS_len (List.replicate k x)
      rw [List.length_replicate] at hpl
      have hpr := pack_read (List.replicate k x) []
      rw [List.append_nil, List.length_replicate] at hpr
      by_cases hbig : 65536 < k
      · have hbI : (65536 : Int) < (k : Int) := by omega
        have hno := hpr.trans (if_neg (by omega))
        have HNO := Lib.hid hno
        clear hno hpr
        go_wp2_with fail
        refine (stored_pack_n _ (List.replicate k x) k k _ hB (by simp) (by simp) (Nat.le_refl _) (by omega)).mono ?_
        rintro e w4 ⟨v, rfl, hown4, hb4⟩
        go_wp2_with fail
        refine (inflate_own hown4 (by omega)).mono ?_
        intro e w5 hinf
        obtain ⟨rfl, hb5⟩ := inflated_nil HNO.out hinf
        go_wp2
        go_ret
        exact ⟨rfl, (hb.trans (hb4.mono hb.size)).trans (hb5.mono (Nat.le_trans hb.size hb4.size))⟩
      · have hbI : (k : Int) ≤ 65536 := by omega
        have hyes := hpr.trans (if_pos (by omega))
        have HYES := Lib.hid hyes
        clear hyes hpr
        go_wp2_with fail
        refine (stored_pack_n _ (List.replicate k x) k k _ hB (by simp) (by simp) (Nat.le_refl _) (by omega)).mono ?_
        rintro e w4 ⟨v, rfl, hown4, hb4⟩
        go_wp2_with fail
        refine (inflate_own hown4 (by omega)).mono ?_
        intro e w5 hinf
        obtain ⟨A5, c5, he, hB5, hb5⟩ := inflated_yes HYES.out hinf
        rw [List.length_replicate] at he
        subst he
        have hc1 := run_str hB5 c5
        have hc2 := run_str ((hB.below hb4).below hb5) k
        rw [List.length_replicate] at hc1 hc2
        clear hown4 hinf hB hB5
        go_wp2
        go_ret
        exact ⟨rfl, (hb.trans (hb4.mono hb.size)).trans (hb5.mono (Nat.le_trans hb.size hb4.size))⟩

end Go.Proofs.Ythceefhnmjjddaa
