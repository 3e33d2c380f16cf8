/-
  A slice of bytes as the source of an append; what the call owns, read as bytes.
-/
import Derived.Test.YtdmgbcpdkmljmaaEncode
import Derived.Test.YtdmgbcpdkmljmaaAppend
namespace Go.Proofs.Ytdmgbcpdkmljmaa
open Go.RowKit

theorem BytesAt.alloc {w : World} {A : Option Addr} {l : List UInt8} (h : BytesAt w A l) (o : Obj) : BytesAt (w.alloc o) A l := h.keep (by simp) fun p hp => World.cell?_alloc_lt w o p hp
theorem bytesV_get {l : List UInt8} {j : Nat} {u : Value} (h : (bytesV l)[j]? = some u) : j < l.length ∧ u = .int .u8 ((l.getD j 0).toNat : Nat) := by
  have hj : j < l.length := by
    have := (List.getElem?_eq_some_iff.1 h).1
    rwa [bytesV_length] at this
  refine ⟨hj, ?_⟩
  simp [bytesV, hj] at h
  rw [← h]
  simp [hj]
theorem BytesAt.src {w : World} {A : Option Addr} {l : List UInt8} (h : BytesAt w A l) : Src w A (bytesV l) := by
  rcases h with rfl | ⟨b, o, rfl, _, hc⟩
  · exact .inl rfl
  · refine .inr ⟨_, rfl, fun j u hu => ?_⟩
    obtain ⟨hj, rfl⟩ := bytesV_get hu
    have hadd : (⟨b, o, none⟩ : Addr).add j = ⟨b, o + j, none⟩ := by
      unfold Addr.add
      split
      · rename_i h; subst h; rfl
      · rfl
    rw [hadd]
    exact hc j hj
/-- What the call owns reads as bytes. -/
theorem BytesAt.of_own {w : World} {base : Nat} {v : Value} {l : List UInt8} (h : w.ownsRow base 5 1 v l.length (bytesV l)) : ∃ A c, v = .slice A l.length c ∧ BytesAt w A l ∧ (∀ a, A = some a → base ≤ a.block) := by
  rcases h.2 with ⟨rfl, hn⟩ | ⟨g, cap, cur, rfl, hb, hg, hnc, hcm, hcs, htk⟩
  · have : l = [] := List.eq_nil_of_length_eq_zero hn
    subst this
    exact ⟨none, 0, rfl, .inl rfl, fun a h => by cases h⟩
  · refine ⟨_, cap, rfl, ?_, fun a h => by injection h with h; subst h; exact hb⟩
    refine .inr ⟨g, 0, rfl, (Array.getElem?_eq_some_iff.1 hg).1, fun i hi => ?_⟩
    have hv : (bytesV l)[i]? = some (.int .u8 ((l.getD i 0).toNat : Nat)) := by simp [bytesV, hi]
    have hc := h.cells (g := g) rfl i _ hv
    have hadd : (⟨g, 0, none⟩ : Addr).add i = ⟨g, 0 + i, none⟩ := by
      unfold Addr.add
      split
      · rename_i h; subst h; rfl
      · rfl
    rw [hadd] at hc
    exact hc


end Go.Proofs.Ytdmgbcpdkmljmaa
