/-
  The law's fixed fact 'lives' returns true, and leaves what was there as it was.
-/
import Derived.Test.YtgcfpehaabajoaaRing
namespace Go.Proofs.Ytgcfpehaabajoaa
open Go.RowKit

theorem new_at (n : Int) (N : Nat) (w : World) (hn : n = (N : Nat)) (h1 : 1 ≤ N) (h2 : N ≤ 1024) :
    Calls Try.prog 6 #[.int .i64 n] w fun e w' => e = .returned (.pointer (some ⟨w.heap.size + 1, 0, none⟩)) ∧ Below w.heap.size w w' ∧ w'.heap.size = w.heap.size + 2 ∧
      IsRing w' (w.heap.size + 1) w.heap.size N 0 0 (List.replicate N 0) (fun _ => 0) := by
  subst hn; exact new_yes N w h1 h2

theorem take_at (b g N f n i : Nat) (k : Int) (raw : List Int) (c : Nat → Int) (w : World) (h : IsRing w b g N f n raw c) (hk : k = (i : Nat)) (hi : i < n) :
    Calls Try.prog 9 #[.pointer (some ⟨b, 0, none⟩), .int .i64 k] w fun e w' => e = .returned (.tuple #[.int .i64 (c i), .bool true]) ∧ Turn b g w w' ∧
      ∃ raw', IsRing w' b g N ((f + 1) % N) (n - 1) raw' (fun j => if j < i then c j else c (j + 1)) := by
  subst hk; exact take_yes b g N f n i raw c w h hi

theorem lives_any (w : World) : Calls Try.prog 7 #[] w fun e w' => e = .returned (.bool true) ∧ Below w.heap.size w w' := by
  go_enter Try.func7, Try.ntmps7
  go_wp2_with fail
  refine (new_at 3 3 _ rfl (by omega) (by omega)).mono ?_
  rintro e w1 ⟨rfl, hb1, hz1, hr1⟩
  go_wp2_with fail
  refine (put_room _ _ _ _ _ 1 _ _ _ hr1 (by omega)).mono ?_
  rintro e w2 ⟨rfl, ht2, raw2, hr2⟩
  go_wp2_with fail
  refine (put_room _ _ _ _ _ 2 _ _ _ hr2 (by omega)).mono ?_
  rintro e w3 ⟨rfl, ht3, raw3, hr3⟩
  go_wp2_with fail
  refine (take_at _ _ _ _ _ 1 1 _ _ _ hr3 rfl (by omega)).mono ?_
  rintro e w4 ⟨rfl, ht4, raw4, hr4⟩
  go_wp2_with fail
  refine (len_any _ _ _ _ _ _ hr4.hb).mono ?_
  rintro e w5 ⟨rfl, rfl⟩
  go_wp2
  go_ret
  refine ⟨rfl, ((hb1.trans (ht2.below ?_ ?_)).trans (ht3.below ?_ ?_)).trans (ht4.below ?_ ?_)⟩
  all_goals omega

end Go.Proofs.Ytgcfpehaabajoaa
