/-
  The law's fixed fact 'lives' returns true, and leaves what was there as it was.
-/
import Derived.Test.YtdmgbcpdkmljmaaCanon
namespace Go.Proofs.Ytdmgbcpdkmljmaa
open Go.RowKit

def exIn : List UInt8 := [37, 55, 101, 37, 50, 102, 32]
def exOut : List UInt8 := [126, 37, 50, 70, 37, 50, 48]
theorem ex_canon : (itemsS exIn).map (canL 1) = some exOut := by decide +kernel
theorem ex_cells (w : World) (fr : Nat × Nat) : BytesAt (w.alloc (.cells #[.int .u8 37, .int .u8 55, .int .u8 101, .int .u8 37, .int .u8 50, .int .u8 102, .int .u8 32] 5 fr)) (some ⟨w.heap.size, 0, none⟩) exIn := by
  refine .inr ⟨_, 0, rfl, by simp, fun i hi => ?_⟩
  refine (cell_of_row (w.alloc _) w.heap.size (0 + i) _ _ _ (heap_alloc_new w _)).trans ?_
  have h : i < 7 := hi
  rcases i with _ | _ | _ | _ | _ | _ | _ | i <;> first | rfl | omega

theorem lives_any : ∀ w : World, Calls Try.prog 7 #[] w fun e w' => e = .returned (.bool true) ∧ Below w.heap.size w w' := by
  intro w
  have kc := fun (w : World) (C : Array Value) (n c : Nat) => Lib.run_convert_bytes_const (P := Try.prog) w 22 5 C n c Try.underlying22 Try.underlying5
  go_enter Try.func7, Try.ntmps7
  go_wp2_with fail
  refine (canon_any _ exIn 7 7 1 _ (by exact ex_cells w _) rfl (by omega) (by decide)).mono ?_
  rw [ex_canon]
  rintro e w1 ⟨v, rfl, hown, hb⟩
  obtain ⟨C, c2, hv2, hC, _⟩ := BytesAt.of_own hown
  rw [hv2]
  have hcv := run_str hC c2
  go_wp2
  go_ret
  exact ⟨rfl, ((Below.refl _ w).alloc (Nat.le_refl _) _).trans (hb.mono (by simp))⟩

end Go.Proofs.Ytdmgbcpdkmljmaa
