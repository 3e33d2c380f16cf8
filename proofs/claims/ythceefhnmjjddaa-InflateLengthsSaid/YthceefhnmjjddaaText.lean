/-
  Slices of bytes as texts: string(b); a slice of bytes as the source of an append; what the call owns, read as bytes.
-/
import Derived.Test.YthceefhnmjjddaaInflate
import Derived.Lib.BytesEntry
import Derived.Laws.Externs
import Derived.Laws.BytesArg
import Derived.Laws.IdiomStrings
namespace Go.Proofs.Ythceefhnmjjddaa
open Go.RowKit

def nums (l : List UInt8) : List Int := l.map fun b => (b.toNat : Int)
theorem nums_length (l : List UInt8) : (nums l).length = l.length := by simp [nums]
theorem nums_getD (l : List UInt8) (i : Nat) : (nums l).getD i 0 = ((l.getD i 0).toNat : Int) := by
  by_cases h : i < l.length
  · simp [nums, h]
  · simp [nums, h]
theorem bytesOf_nums (l : List UInt8) : Lib.bytesOf (nums l) = l := by
  induction l with
  | nil => rfl
  | cons b l ih =>
    have e : Lib.bytesOf (nums (b :: l)) = UInt8.ofNat ((b.toNat : Int).toNat) :: Lib.bytesOf (nums l) := rfl
    rw [e, ih]
    simp
theorem strOfNums_nums (l : List UInt8) : strOfNums (nums l) = ⟨l.toArray⟩ := by
  apply ByteArray.ext
  have h := strOfNums_data (nums l)
  have h2 : (nums l).map (fun n => UInt8.ofNat n.toNat) = l := bytesOf_nums l
  rw [h2] at h
  rw [← Array.toList_inj, h]

/-- 'string(b)' of bytes. -/
theorem run_str {w : World} {A : Option Addr} {l : List UInt8} (h : BytesAt w A l) (c : Nat) : (convert 22 9 (.slice A l.length c)).run Try.prog w = .ok (.string ⟨l.toArray⟩) w := by
  rcases h with rfl | ⟨b, o, rfl, hb, hc⟩
  · show (convert 22 9 (.slice A 0 c)).run Try.prog w = _
    rw [run_convert_bytes_string w 22 9 5 A 0 c Try.underlying22 Try.underlying5 Try.underlying9]
    cases A with
    | none => simp [Conv.bytesToString]; rfl
    | some a =>
      rw [run_bytesToString w a 0 c [] (by simp [loadCells, loadCellsFrom])]
      rfl
  · rw [← strOfNums_nums l]
    exact run_convert_bytes_arg w 22 5 Try.underlying22 Try.underlying5 b o l.length c (nums l) (nums_length l) (fun i hi => by rw [nums_getD]; exact hc i hi) 9 Try.underlying9

theorem BytesAt.alloc {w : World} {A : Option Addr} {l : List UInt8} (h : BytesAt w A l) (o : Obj) : BytesAt (w.alloc o) A l := h.below ((Below.refl _ w).alloc (Nat.le_refl _) o)
theorem bytesV_get {l : List UInt8} {j : Nat} {u : Value} (h : (bytesV l)[j]? = some u) : j < l.length ∧ u = .int .u8 ((l.getD j 0).toNat : Nat) := by
  have hj : j < l.length := by
    have := (List.getElem?_eq_some_iff.1 h).1
    rwa [bytesV_length] at this
  refine ⟨hj, ?_⟩
  simp [bytesV, hj] at h
  rw [← h]
  simp [hj]
theorem BytesAt.src {w : World} {A : Option Addr} {l : List UInt8} (h : BytesAt w A l) : Src w A (bytesV l) := by
  rcases h with rfl | ⟨b, o, rfl, _, hc⟩
  · exact .inl rfl
  · refine .inr ⟨_, rfl, fun j u hu => ?_⟩
    obtain ⟨hj, rfl⟩ := bytesV_get hu
    have hadd : (⟨b, o, none⟩ : Addr).add j = ⟨b, o + j, none⟩ := by
      unfold Addr.add
      split
      · rename_i h; subst h; rfl
      · rfl
    rw [hadd]
    exact hc j hj
/-- What the call owns reads as bytes. -/
theorem BytesAt.of_own {w : World} {base : Nat} {v : Value} {l : List UInt8} (h : w.ownsRow base 5 1 v l.length (bytesV l)) : ∃ A c, v = .slice A l.length c ∧ BytesAt w A l ∧ (∀ a, A = some a → base ≤ a.block) := by
  rcases h.2 with ⟨rfl, hn⟩ | ⟨g, cap, cur, rfl, hb, hg, hnc, hcm, hcs, htk⟩
  · have : l = [] := List.eq_nil_of_length_eq_zero hn
    subst this
    exact ⟨none, 0, rfl, .inl rfl, fun a h => by cases h⟩
  · refine ⟨_, cap, rfl, ?_, fun a h => by injection h with h; subst h; exact hb⟩
    refine .inr ⟨g, 0, rfl, (Array.getElem?_eq_some_iff.1 hg).1, fun i hi => ?_⟩
    have hv : (bytesV l)[i]? = some (.int .u8 ((l.getD i 0).toNat : Nat)) := by simp [bytesV, hi]
    have hc := h.cells (g := g) rfl i _ hv
    have hadd : (⟨g, 0, none⟩ : Addr).add i = ⟨g, 0 + i, none⟩ := by
      unfold Addr.add
      split
      · rename_i h; subst h; rfl
      · rfl
    rw [hadd] at hc
    exact hc


end Go.Proofs.Ythceefhnmjjddaa
