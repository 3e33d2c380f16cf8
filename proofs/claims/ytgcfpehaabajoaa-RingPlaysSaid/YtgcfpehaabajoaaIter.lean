/-
  The ring's iterator (All) by its contract: the pairs (0, c 0), (1, c 1), .., for every loop body that keeps the ring.
-/
import Derived.Test.YtgcfpehaabajoaaRing
import Derived.RangeFuncNested
import Derived.RangeFuncBound
import Derived.RangeFuncCalls
import Derived.RangeFuncLeaves
import Derived.RangeFuncBox
import Derived.Shelf.Abstract
import Derived.Shelf.RegionOpen
import Derived.OwnWalkIn
import Derived.TacticsInMore
import Derived.LoopNIn
import Derived.LoopIn
import Derived.Maps.AppendAt
namespace Go.Proofs.Ytgcfpehaabajoaa
open Go.RowKit Go.Shelf

attribute [local go_sem] Oper.semAt_some

def upto {α : Type} (f : Nat → α) (k : Nat) : List α := (List.range k).map f
theorem upto_succ {α : Type} (f : Nat → α) (k : Nat) : upto f (k + 1) = upto f k ++ [f k] := by simp [upto, List.range_succ]
theorem upto_length {α : Type} (f : Nat → α) (k : Nat) : (upto f k).length = k := by simp [upto]

/-- Three blocks lie as they lay. -/
structure Same3 (i j k : Nat) (W W' : World) : Prop where
  hi : W'.heap[i]? = W.heap[i]?
  hj : W'.heap[j]? = W.heap[j]?
  hk : W'.heap[k]? = W.heap[k]?
theorem Same3.refl (i j k : Nat) (W : World) : Same3 i j k W W := ⟨rfl, rfl, rfl⟩
theorem Same3.trans {i j k : Nat} {A B C : World} (h : Same3 i j k A B) (h' : Same3 i j k B C) : Same3 i j k A C := ⟨h'.hi.trans h.hi, h'.hj.trans h.hj, h'.hk.trans h.hk⟩
theorem Same3.below {i j k B : Nat} {W W' : World} (h : Below B W W') (hi : i < B) (hj : j < B) (hk : k < B) : Same3 i j k W W' := ⟨h.block i hi, h.block j hj, h.block k hk⟩
theorem same3_b {i j k B : Nat} (hi : i < B) (hj : j < B) (hk : k < B) (W : World) (l : Nat) (o o' : Obj) (hl : B ≤ l) (_ : W.heap[l]? = some o) (_ : o.isCells = false) (_ : o.isWalk = false) : Same3 i j k W (W.putObj l o') :=
  ⟨World.putObj_heap_other (by omega), World.putObj_heap_other (by omega), World.putObj_heap_other (by omega)⟩

theorem abide_drewN {β : Type} {B : Nat} {J : β → World → Prop} (h : AbidesFrom B J) {s : β} {W : World} (hs : J s W) (q : Nat) : J s (W.drewN q) :=
  h s W _ none hs ⟨rfl, rfl, rfl, Nat.le_refl _, fun _ _ _ => rfl⟩ (fun r e => by cases e)

set_option maxRecDepth 100000 in
set_option maxHeartbeats 2000000 in
theorem all1_in (n : Nat) (hn : 1 ≤ n) (l Bn b g N f m B0 : Nat) (raw : List Int) (c : Nat → Int) (J Jx : List (Nat × Int) → World → Prop) (hJa : AbidesFrom B0 J)
    (hY : ∀ pre x W, J pre W → pre.length < m → YieldAt Fence.wide (n - 1) Try.prog l #[.int .i64 (x.1 : Int), .int .i64 x.2] W fun e W' =>
      (e = .returned (.bool true) ∧ J (pre ++ [x]) W' ∧ Same3 Bn b g W W') ∨ (e = .returned (.bool false) ∧ Jx (pre ++ [x]) W'))
    (W : World) (hBn : Boxed W Bn 24 (.pointer (some ⟨b, 0, none⟩))) (hR : IsRing W b g N f m raw c) (h0 : J [] W) :
    CallsIn Fence.wide n Try.prog 22 #[.func (.yield l) #[] #[], .pointer (some ⟨Bn, 0, none⟩)] W fun e W' => (∃ v, e = .returned v) ∧
      ((∃ ys, ys = upto (fun j => (j, c j)) m ∧ J ys W') ∨ (∃ pre, (∃ k, k ≤ m ∧ pre = upto (fun j => (j, c j)) k) ∧ Jx pre W')) := by
  have hN := hR.hh.hN
  have hf := hR.hh.hf
  have hm := hR.hh.hn
  refine callsIn_of_wp Try.func22 rfl trivial ?_ rfl
  simp only [Try.ntmps22, List.size_toArray, List.length_cons, List.length_nil, Nat.reduceAdd, Nat.reduceSub, Array.replicate_succ, Array.replicate_zero, List.push_toArray, List.append_toArray, List.nil_append, List.cons_append]
  gi_wp2
  gi_loopw [3] (fun i wr => ∃ k : Nat, k ≤ m ∧ i = .int .i64 (k : Nat) ∧ J (upto (fun j => (j, c j)) k) wr ∧ Same3 Bn b g W wr)
    (fun i _ => m - (intOf i).toNat)
  case atStart => exact ⟨0, Nat.zero_le _, rfl, h0, Same3.refl _ _ _ _⟩
  case round =>
    obtain ⟨k, hk, rfl, hJs, hnx⟩ := hrel
    have hBx : Boxed wr Bn 24 (.pointer (some ⟨b, 0, none⟩)) := hnx.hi.trans hBn
    have hRx : IsRing wr b g N f m raw c := ⟨hnx.hj.trans hR.hb, hnx.hk.trans hR.hg, hR.hh⟩
    have hcB := hBx.cell
    by_cases hlt : k < m
    · have hcx := hRx.hg.row ((f + k) % N) (by rw [hRx.hh.len]; exact Nat.mod_lt _ (by omega))
      rw [hRx.hh.hat k hlt] at hcx
      gi_wp2_with (first
        | (refine ⟨trivial, ?_⟩; gi_at_call 23; refine (callsIn_wide.2 (has_yes b g N f m k _ hRx.hb hlt)).mono ?_; rintro e w' ⟨rfl, rfl⟩)
        | (refine ⟨trivial, ?_⟩; gi_at_call 21; refine (callsIn_wide.2 (slot_any b g N f m k _ hRx.hb (by omega) hN hf (by omega))).mono ?_; rintro e w' ⟨rfl, q, rfl⟩; obtain ⟨fn, tmps, assign, body, hy, hR2⟩ := hY _ (k, c k) (wr.drewN q) (abide_drewN hJa hJs q) (by rw [upto_length]; exact hlt); dsimp only at hy))
      refine hR2.mono ?_
      rintro e W3 (⟨rfl, hJ3, hk3⟩ | ⟨rfl, hJx3⟩)
      · gi_wp2
        go_roundw
        case rel => exact ⟨k + 1, by omega, by simp, by rw [upto_succ]; exact hJ3, hnx.trans (Same3.trans (B := wr.drewN q) ⟨rfl, rfl, rfl⟩ hk3)⟩
        case measure => simp [intOf]; omega
      · gi_wp2
        refine bodyPost_ret (results_none rfl _ _ _) rfl ?_
        exact ⟨⟨_, rfl⟩, .inr ⟨_, ⟨k + 1, by omega, (upto_succ _ _).symm⟩, hJx3⟩⟩
    · obtain rfl : k = m := by omega
      gi_wp2_with (refine ⟨trivial, ?_⟩; gi_at_call 23; refine (callsIn_wide.2 (has_no b g N f k k _ hRx.hb (by omega))).mono ?_; rintro e w' ⟨rfl, rfl⟩)
      go_end0
      exact ⟨⟨_, rfl⟩, .inl ⟨_, rfl, hJs⟩⟩

set_option maxRecDepth 100000 in
set_option maxHeartbeats 2000000 in
/-- .. of no ring: no round. -/
theorem all1_nil_in (n : Nat) (hn : 1 ≤ n) (l Bn : Nat) (J : List (Nat × Int) → World → Prop)
    (W : World) (hBn : Boxed W Bn 24 (.pointer none)) (h0 : J [] W) :
    CallsIn Fence.wide n Try.prog 22 #[.func (.yield l) #[] #[], .pointer (some ⟨Bn, 0, none⟩)] W fun e W' => (∃ v, e = .returned v) ∧ J [] W' := by
  have hcB := hBn.cell
  refine callsIn_of_wp Try.func22 rfl trivial ?_ rfl
  simp only [Try.ntmps22, List.size_toArray, List.length_cons, List.length_nil, Nat.reduceAdd, Nat.reduceSub, Array.replicate_succ, Array.replicate_zero, List.push_toArray, List.append_toArray, List.nil_append, List.cons_append]
  gi_wp2
  gi_loopw [3] (fun i wr => i = .int .i64 0 ∧ wr = W) (fun _ _ => 0)
  case atStart => exact ⟨rfl, rfl⟩
  case round =>
    obtain ⟨rfl, rfl⟩ := hrel
    gi_wp2_with (refine ⟨trivial, ?_⟩; gi_at_call 23; refine (callsIn_wide.2 (has_nil 0 _)).mono ?_; rintro e w' ⟨rfl, rfl⟩)
    go_end0
    exact ⟨⟨_, rfl⟩, h0⟩

theorem seq_any (p : Option Addr) (w : World) :
    Calls Try.prog 13 #[.pointer p] w fun e w' => e = .returned (.func (.func 22) #[] #[.pointer (some ⟨w.heap.size, 0, none⟩)]) ∧ w' = w.alloc (.cells #[.pointer p] 24) := by
  go_enter Try.func13, Try.ntmps13
  go_wp2
  go_ret
  exact ⟨rfl, rfl⟩

/-- The iterator's promise. -/
theorem all_stops (n : Nat) (hn : 1 ≤ n) (Bn b g N f m : Nat) (raw : List Int) (c : Nat → Int) (w : World) (hBn : Boxed w Bn 24 (.pointer (some ⟨b, 0, none⟩))) (hR : IsRing w b g N f m raw c) :
    SeqStopsK Fence.wide n Try.prog 22 #[.pointer (some ⟨Bn, 0, none⟩)] (fun x : Nat × Int => #[Value.int .i64 (x.1 : Int), Value.int .i64 x.2]) (Same3 Bn b g) (fun ys => ys = upto (fun j => (j, c j)) m)
      (fun pre => ∃ k, k ≤ m ∧ pre = upto (fun j => (j, c j)) k) m w := fun l J Jx W hW hJ _ hY h0 =>
  all1_in n hn l Bn b g N f m _ raw c J Jx hJ hY W ((hW.block Bn hBn.lt).trans hBn) ⟨hR.hb.below hW hR.hb.lt, hR.hg.below hW hR.hg.lt, hR.hh⟩ h0

theorem all_stops_nil (n : Nat) (hn : 1 ≤ n) (Bn : Nat) (w : World) (hBn : Boxed w Bn 24 (.pointer none)) :
    SeqStopsK Fence.wide n Try.prog 22 #[.pointer (some ⟨Bn, 0, none⟩)] (fun x : Nat × Int => #[Value.int .i64 (x.1 : Int), Value.int .i64 x.2]) (Below w.heap.size) (fun ys => ys = [])
      (fun _ => False) 0 w := fun l J _ W hW _ _ _ h0 =>
  (all1_nil_in n hn l Bn J W ((hW.block Bn hBn.lt).trans hBn) h0).mono fun _ _ ⟨he, hj⟩ => ⟨he, .inl ⟨_, rfl, hj⟩⟩

end Go.Proofs.Ytgcfpehaabajoaa
