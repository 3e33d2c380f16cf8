/-
  'cordonlaw24.RingPlays' returns true, for every size and every list of acts; what was there stays as it was.
-/
import Derived.Test.YtgcfpehaabajoaaTake
import Derived.Test.YtgcfpehaabajoaaNil
import Derived.Deep.RegionHeld3
namespace Go.Proofs.Ytgcfpehaabajoaa
open Go.RowKit

set_option maxRecDepth 100000 in
theorem plays_bad (size : Int) (a : Option Addr) (len cap : Nat) (w : World) (hlen : len ≤ maxLen) (hbad : size < 1 ∨ 1024 < size) :
    Calls Try.prog 5 #[.int .i64 size, .slice a len cap] w fun e w' => e = .returned (.bool true) ∧ Below w.heap.size w w' := by
  unfold maxLen at hlen
  by_cases hl : 80 < len
  · have hl' : (80 : Int) < (len : Int) := by omega
    clear hbad
    go_enter Try.func5, Try.ntmps5
    go_wp2_with fail
    refine (lives_any _).mono ?_
    rintro e w2 ⟨rfl, hb2⟩
    go_wp2_with fail
    refine (lives_any _).mono ?_
    rintro e w3 ⟨rfl, hb3⟩
    go_wp2
    go_ret
    exact ⟨rfl, hb2.trans (hb3.mono hb2.size)⟩
  · have hl' : ¬ (80 : Int) < (len : Int) := by omega
    have HB := Lib.hid hbad
    have hbad' : (decide (size < 1) || decide (1024 < size)) = true := by
      rcases hbad with h | h <;> simp [h]
    go_enter Try.func5, Try.ntmps5
    go_wp2_with fail
    refine (lives_any _).mono ?_
    rintro e w2 ⟨rfl, hb2⟩
    go_wp2_with fail
    refine (new_no size _ HB.out).mono ?_
    rintro e w3 ⟨rfl, rfl⟩
    go_wp2_with fail
    all_goals
      refine (take_nil _ _).mono ?_
      rintro e w4 ⟨rfl, rfl⟩
      go_wp2_with fail
      refine (at_nil _ _).mono ?_
      rintro e w4 ⟨rfl, rfl⟩
      go_wp2_with fail
      refine (seq_any _ _).mono ?_
      rintro e w4 ⟨rfl, rfl⟩
      go_wp2_with fail
      refine (all_nil _ _ (Boxed.new _ _ _)).mono ?_
      rintro e w5 ⟨rfl, hb5⟩
      have hg5 := (box_below w2 _).trans (hb5.mono (by rw [World.size_alloc]; omega))
      clear hb5
      go_wp2_with fail
      refine (put_nil _ _).mono ?_
      rintro e w6 ⟨rfl, rfl⟩
      go_wp2_with fail
      refine (len_nil _).mono ?_
      rintro e w6 ⟨rfl, rfl⟩
      go_wp2_with fail
      refine (drop_nil _ _).mono ?_
      rintro e w6 ⟨rfl, rfl⟩
      go_wp2_with fail
      refine (copy_nil _ rfl _).mono ?_
      rintro e w6 ⟨rfl, hb6⟩
      go_wp2
      go_ret
      exact ⟨rfl, hb2.trans ((hg5.trans (hb6.mono hg5.size)).mono hb2.size)⟩

end Go.Proofs.Ytgcfpehaabajoaa
