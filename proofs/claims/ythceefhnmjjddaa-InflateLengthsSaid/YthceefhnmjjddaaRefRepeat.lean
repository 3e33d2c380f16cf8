/-
  The document's repeat, by a contract.
-/
import Derived.Test.YthceefhnmjjddaaRefRead
namespace Go.Proofs.Ythceefhnmjjddaa
open Go.RowKit

theorem one_i64 (k : Int) : ∀ u ∈ [Value.int .i64 k], u.oneCell' = true := by intro u hu; rw [List.mem_singleton] at hu; subst hu; rfl
theorem le638 {n : Nat} (h : n ≤ 3000000) : n ≤ maxLen ∧ n * 8 ≤ 140737488355328 := by unfold maxLen; omega
theorem rep_own {w : World} {B k x : Nat} {v : Value} (h : w.ownsRow B 3 1 v (k + 1) (numsV (List.replicate k x) ++ [.int .i64 (x : Nat)])) : w.ownsRow B 3 1 v (k + 1) (numsV (List.replicate (k + 1) x)) := by
  have e : numsV (List.replicate (k + 1) x) = numsV (List.replicate k x) ++ [.int .i64 (x : Nat)] := by rw [List.replicate_succ', numsV_append]; rfl
  rw [e]
  exact h

set_option maxHeartbeats 1000000 in
set_option maxRecDepth 100000 in
theorem rrepeat_any (x m : Nat) (k : Int) (w : World) (hk : k = (m : Nat)) (hm : m ≤ 65536) :
    Calls Try.prog 39 #[.int .i64 (x : Nat), .int .i64 k] w fun e w' => ∃ v, e = .returned v ∧ w'.ownsRow w.heap.size 3 1 v m (numsV (List.replicate m x)) ∧ Below w.heap.size w w' := by
  subst hk
  obtain ⟨i0, hi, hz0, hz1, hz2⟩ := info_parts info3
  go_enter Try.func39, Try.ntmps39
  go_wp2
  go_loopw [5, 6] (fun v i wr => ∃ j : Nat, i = .int .i64 (j : Nat) ∧ j ≤ m ∧ wr.ownsRow w.heap.size 3 1 v j (numsV (List.replicate j x)) ∧ Below w.heap.size w wr) (fun _ i _ => m - (intOf i).toNat)
  case atStart => exact ⟨0, rfl, by omega, ownsRow_empty (heap_alloc_new w _) (Nat.le_refl _), (Below.refl _ w).alloc (Nat.le_refl _) _⟩
  case round =>
    obtain ⟨j, rfl, hj, hown, hbel⟩ := hrel
    by_cases hlt : j < m
    · obtain ⟨A3, c3, rfl⟩ := own_slice hown
      have hbs := hbel.size
      have hone := Lib.hid (one_i64 (x : Nat))
      have h63 := Lib.hid (le638 (show j + 1 ≤ 3000000 by omega))
      have hown1 := hown.alloc (.cells #[.int .i64 (x : Nat)] 3)
      have hsrc := cell_src wr (.int .i64 (x : Nat)) 3
      clear hown
      go_wp2_with (at_builtin; go_loud (refine wpList_append_src _ rfl (.tmp 13) (.tmp 15) 28 rfl w.heap.size 3 i0 (.int .i64 0) 1 8 Try.underlying28 hi hz0 hz1 hz2 rfl (by decide) (.slice A3 j c3) j (numsV (List.replicate j x)) rfl hown1 (some ⟨wr.heap.size, 0, none⟩) 1 1 [.int .i64 (x : Nat)] rfl rfl hsrc hone.out h63.out.1 h63.out.2 (by simp; omega) ?_; intro v' w5 hown5 hgrow5; have hbel5 := (hbel.alloc hbs _).grown hgrow5 (by simp; omega) (fun k hk => (hown1.lt k hk).1)))
      have hown6 := rep_own hown5
      clear hgrow5 hown1 hsrc hown5
      go_roundw
      case rel => exact ⟨j + 1, by go_num, by omega, hown6, hbel5⟩
      case measure => simp [intOf]; omega
    · obtain rfl : j = m := by omega
      go_wp2
      go_ret
      exact ⟨_, rfl, hown, hbel⟩

end Go.Proofs.Ythceefhnmjjddaa
