/-
  A store into a row of bytes that the call owns.
-/
import Derived.Test.YthceefhnmjjddaaReads
namespace Go.Proofs.Ythceefhnmjjddaa
open Go.RowKit

theorem own_store_ {w : World} {base : Nat} {A : Option Addr} {c : Nat} {l : List UInt8} {i : Nat} {x : UInt8} (h : w.ownsRow base 5 1 (.slice A l.length c) l.length (bytesV l)) (hi : i < l.length) : ∃ g, A = some ⟨g, 0, none⟩ ∧ base ≤ g ∧ w.cell? ⟨g, i, none⟩ = some (.int .u8 ((l.getD i 0).toNat : Nat)) ∧ w.frozen? ⟨g, i, none⟩ = false ∧ (w.setCell ⟨g, i, none⟩ (.int .u8 (x.toNat : Nat))).ownsRow base 5 1 (.slice A l.length c) (l.set i x).length (bytesV (l.set i x)) := by
  obtain ⟨g, cap, hv, hc⟩ := own_byte h i hi
  rcases h.2 with ⟨hv2, hn⟩ | ⟨g2, cap2, cur, hv2, hb, hg, hnc, hcm, hcs, htk⟩
  · omega
  · injection hv with h1 h2 h3
    injection hv2 with h4 h5 h6
    subst h1
    injection h4 with h4
    injection h4 with h4
    subst h4 h6
    refine ⟨g, rfl, hb, hc, frozen_of_row w g i _ _ hg, ?_, .inr ⟨g, c, cur.setIfInBounds i (.int .u8 (x.toNat : Nat)), by rw [List.length_set], hb, heap_setCell_same w g i _ 5 _ hg, by rw [List.length_set]; exact hnc, hcm, by simpa using hcs, ?_⟩⟩
    · simp [bytesV]
    · rw [List.length_set, Array.toList_setIfInBounds, List.take_set, htk]
      simp [bytesV, List.map_set]

end Go.Proofs.Ythceefhnmjjddaa
