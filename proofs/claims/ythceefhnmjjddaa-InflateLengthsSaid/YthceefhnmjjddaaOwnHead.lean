/-
  inflate's order, by a contract; what own leaves.
-/
import Derived.Test.YthceefhnmjjddaaFixed
import Derived.Test.YthceefhnmjjddaaStored
namespace Go.Proofs.Ythceefhnmjjddaa
open Go.RowKit

def orderA : Array Value := #[.int .i64 16, .int .i64 17, .int .i64 18, .int .i64 0, .int .i64 8, .int .i64 7, .int .i64 9, .int .i64 6, .int .i64 10, .int .i64 5, .int .i64 11, .int .i64 4, .int .i64 12, .int .i64 3, .int .i64 13, .int .i64 2, .int .i64 14, .int .i64 1, .int .i64 15]
theorem orderA_get : ∀ k, k < 19 → orderA[k]? = some (.int .i64 (orderL.getD k 0 : Nat)) := by
  intro k h
  rcases k with _ | _ | _ | _ | _ | _ | _ | _ | _ | _ | _ | _ | _ | _ | _ | _ | _ | _ | _ | k <;> first | rfl | omega
theorem orderA_one : orderA.all (·.oneCell') = true := by
  have h : ∀ n, (Value.int .i64 n).oneCell' = true := fun _ => rfl
  simp [orderA, h]
theorem orderL_lt : ∀ k, k < 19 → orderL.getD k 0 < 19 := by decide +kernel
theorem f35_results : Try.f35.results = #[.cell 0 78] := by kernel_rfl
theorem ti78 : (Try.prog.info? 78).map (·.size) = some 19 := by kernel_rfl

theorem order_any (w : World) : Calls Try.prog 35 #[] w fun e w' => e = .returned (.agg orderA) ∧ Below w.heap.size w w' := by
  go_enter Try.func35, Try.ntmps35
  go_wp2_with (refine wpList_store_row rfl 78 (.tmp 0) (.tmp 1) rfl w.heap.size orderA rfl rfl 78 _ (heap_alloc_new w _) ti78 rfl orderA_one ?_)
  refine bodyPost_ret_by (results_cell_row f35_results _ _ w.heap.size 78 orderA (0, 0) _ rfl (setRow_heap _ _ _ _ _ _ (heap_alloc_new w _)) Try.underlying78 rfl ti78) rfl ?_
  exact ⟨rfl, below_row ((Below.refl _ w).alloc (Nat.le_refl _) _) (Nat.le_refl _) _⟩

/-- What own gives. -/
def Owned (o : Option (List Nat × List Nat × Nat)) (b : Nat) (A : Option Addr) (cap : Nat) (T : List UInt8) (w : World) (e : Ending) (w' : World) : Prop :=
  Only [b] w w' ∧ match o with
  | some (L1, L2, I') => Tables (some (L1, L2)) w e w' ∧ Alive w' b A cap T I' ∧ L1.length ≤ 288 ∧ L2.length ≤ 288
  | none => Tables none w e w' ∧ Halt w' b 2

theorem numsV_set (L : List Nat) (c v : Nat) : (numsV L).toArray.setIfInBounds c (.int .i64 (v : Nat)) = (numsV (L.set c v)).toArray := by
  apply Array.ext'
  simp only [Array.toList_setIfInBounds]
  simp [numsV, List.map_set]
theorem nums_row_ {w : World} {g : Nat} {L : List Nat} (h : w.heap[g]? = some (.cells (numsV L).toArray 3 (0, 0))) : NumsAt w (some ⟨g, 0, none⟩) L := by
  refine .inr ⟨g, 0, rfl, (Array.getElem?_eq_some_iff.1 h).1, fun i hi => ?_⟩
  rw [Nat.zero_add, cell_of_row _ _ _ _ _ _ h, List.getElem?_toArray]
  simp [numsV, hi]

theorem codesS_step {T : List UInt8} {cs codes : List Nat} {s : Option Nat} {k : Nat} (h : k < cs.length) : codesS T (cs.drop k) codes s = codesS T (cs.drop (k + 1)) (codes.set (cs.getD k 0) (numS T s 3).1) (numS T s 3).2 := by
  rw [List.drop_eq_getElem_cons h]
  have : cs.getD k 0 = cs[k] := by simp [List.getD_eq_getElem?_getD, List.getElem?_eq_getElem h]
  rw [this]
  rfl

end Go.Proofs.Ythceefhnmjjddaa
