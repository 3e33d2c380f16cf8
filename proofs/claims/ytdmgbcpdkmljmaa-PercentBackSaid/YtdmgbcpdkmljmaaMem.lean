/-
  Slices of bytes as lists of bytes; what the conversions to and from text give; bytes.IndexByte, by a contract.
-/
import Derived.Test.YtdmgbcpdkmljmaaBytes
import Derived.Lib.BytesEntry
import Derived.Laws.Externs
import Derived.Laws.BytesArg
import Derived.Laws.IdiomStrings
namespace Go.Proofs.Ytdmgbcpdkmljmaa
open Go.RowKit

/-- The slice at A holds the bytes l. -/
def BytesAt (w : World) (A : Option Addr) (l : List UInt8) : Prop :=
  l = [] ∨ ∃ b o, A = some ⟨b, o, none⟩ ∧ b < w.heap.size ∧ ∀ i, i < l.length → w.cell? ⟨b, o + i, none⟩ = some (.int .u8 ((l.getD i 0).toNat : Nat))

theorem BytesAt.keep {w w' : World} {A : Option Addr} {l : List UInt8} (h : BytesAt w A l) (hz : w.heap.size ≤ w'.heap.size) (hk : ∀ p : Addr, p.block < w.heap.size → w'.cell? p = w.cell? p) : BytesAt w' A l := by
  rcases h with h | ⟨b, o, e, hb, hc⟩
  · exact .inl h
  · exact .inr ⟨b, o, e, by omega, fun i hi => (hk ⟨b, o + i, none⟩ hb).trans (hc i hi)⟩
theorem BytesAt.below {w w' : World} {A : Option Addr} {l : List UInt8} (h : BytesAt w A l) (hb : Below w.heap.size w w') : BytesAt w' A l := h.keep hb.size fun _ hp => hb.cell hp
theorem BytesAt.drewN {w : World} {A : Option Addr} {l : List UInt8} (h : BytesAt w A l) (n : Nat) : BytesAt (w.drewN n) A l := h
theorem BytesAt.nil (w : World) (A : Option Addr) : BytesAt w A [] := .inl rfl

def nums (l : List UInt8) : List Int := l.map fun b => (b.toNat : Int)
theorem nums_length (l : List UInt8) : (nums l).length = l.length := by simp [nums]
theorem nums_getD (l : List UInt8) (i : Nat) : (nums l).getD i 0 = ((l.getD i 0).toNat : Int) := by
  by_cases h : i < l.length
  · simp [nums, h]
  · simp [nums, h]
theorem bytesOf_nums (l : List UInt8) : Lib.bytesOf (nums l) = l := by
  induction l with
  | nil => rfl
  | cons b l ih =>
    have e : Lib.bytesOf (nums (b :: l)) = UInt8.ofNat ((b.toNat : Int).toNat) :: Lib.bytesOf (nums l) := rfl
    rw [e, ih]
    simp
theorem strOfNums_nums (l : List UInt8) : strOfNums (nums l) = ⟨l.toArray⟩ := by
  apply ByteArray.ext
  have h := strOfNums_data (nums l)
  have h2 : (nums l).map (fun n => UInt8.ofNat n.toNat) = l := bytesOf_nums l
  rw [h2] at h
  rw [← Array.toList_inj, h]

/-- 'string(b)' of bytes. -/
theorem run_str {w : World} {A : Option Addr} {l : List UInt8} (h : BytesAt w A l) (c : Nat) : (convert 22 9 (.slice A l.length c)).run Try.prog w = .ok (.string ⟨l.toArray⟩) w := by
  rcases h with rfl | ⟨b, o, rfl, hb, hc⟩
  · show (convert 22 9 (.slice A 0 c)).run Try.prog w = _
    rw [run_convert_bytes_string w 22 9 5 A 0 c Try.underlying22 Try.underlying5 Try.underlying9]
    cases A with
    | none => simp [Conv.bytesToString]; rfl
    | some a =>
      rw [run_bytesToString w a 0 c [] (by simp [loadCells, loadCellsFrom])]
      rfl
  · rw [← strOfNums_nums l]
    exact run_convert_bytes_arg w 22 5 Try.underlying22 Try.underlying5 b o l.length c (nums l) (nums_length l) (fun i hi => by rw [nums_getD]; exact hc i hi) 9 Try.underlying9

theorem index_any (A : Option Addr) (l : List UInt8) (c : Nat) (b : UInt8) (w : World) (h : BytesAt w A l) :
    Calls Try.prog 16 #[.slice A l.length c, .int .u8 (b.toNat : Nat)] w fun e w' => e = .returned (.int .i64 (Lib.indexByte l b)) ∧ w = w' := by
  have hb : ((b.toNat : Int)).toNat.toUInt8 = b := by simp
  have hrun : (Extern.BytealgIndexByte.indexByte #[.slice A l.length c, .int .u8 (b.toNat : Nat)]).run Try.prog w = .ok (.int .i64 (Lib.indexByte l b)) w := by
    rcases h with rfl | ⟨b', o, rfl, hb', hc⟩
    · cases A with
      | none => exact Lib.run_indexByteNil w 0 c _
      | some a =>
        have hs := Lib.run_indexByteString (P := Try.prog) .empty (b.toNat : Int) w
        exact hs
    · have := Lib.run_indexByteSlice (P := Try.prog) w b' o l.length c (nums l) (nums_length l) (fun i hi => by rw [nums_getD]; exact hc i hi) (b.toNat : Int)
      rw [bytesOf_nums, hb] at this
      exact this
  clear h
  have H := Lib.hid hrun
  clear hrun
  go_enter Try.func16, Try.ntmps16
  go_wp2
  rw [run_callFunc_extern Try.func23 (by kernel_rfl) (by kernel_rfl) (by kernel_rfl) (e := Extern.BytealgIndexByte.indexByte) (by kernel_rfl), H.out]
  simp only [Result.andThen]
  rw [Oper.upon_value]
  go_wp2
  go_ret
  exact ⟨rfl, rfl⟩

end Go.Proofs.Ytdmgbcpdkmljmaa
