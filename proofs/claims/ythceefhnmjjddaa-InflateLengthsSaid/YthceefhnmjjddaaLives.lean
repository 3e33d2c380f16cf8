/-
  The law's fixed fact 'lives' returns true, and leaves what was there as it was.
-/
import Derived.Test.YthceefhnmjjddaaText
namespace Go.Proofs.Ythceefhnmjjddaa
open Go.RowKit

def exIn : List UInt8 := [75, 4, 0]
theorem ex_plain : inflateS exIn = .ok ([97], 18) := by kernel_rfl
theorem ex_cells (w : World) (fr : Nat × Nat) : BytesAt (w.alloc (.cells #[.int .u8 75, .int .u8 4, .int .u8 0] 5 fr)) (some ⟨w.heap.size, 0, none⟩) exIn := by
  refine .inr ⟨_, 0, rfl, by simp, fun i hi => ?_⟩
  refine (cell_of_row (w.alloc _) w.heap.size (0 + i) _ _ _ (heap_alloc_new w _)).trans ?_
  have h : i < 3 := hi
  rcases i with _ | _ | _ | i <;> first | rfl | omega

theorem lives_any (w : World) : Calls Try.prog 8 #[] w fun e w' => e = .returned (.bool true) ∧ Below w.heap.size w w' := by
  go_enter Try.func8, Try.ntmps8
  go_wp2_with fail
  refine (inflate_any _ 3 exIn _ (by exact ex_cells w _) (fun a ha => by injection ha with ha; rw [← ha]; simp) (by decide)).mono ?_
  rw [ex_plain]
  rintro e w1 ⟨hb, v, he, hown, _⟩
  have he' : e = .returned (.tuple #[v, .int .i64 3, .int .i64 0]) := he
  subst he'
  obtain ⟨C, c2, hv2, hC, _⟩ := BytesAt.of_own hown
  obtain rfl : v = .slice C 1 c2 := hv2
  have hcv : (convert 22 9 (.slice C 1 c2)).run Try.prog w1 = .ok (.string ⟨#[97]⟩) w1 := run_str hC c2
  clear hown
  go_wp2
  go_ret
  exact ⟨rfl, ((Below.refl _ w).alloc (Nat.le_refl _) _).trans (hb.mono (by simp))⟩

end Go.Proofs.Ythceefhnmjjddaa
