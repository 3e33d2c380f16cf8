/-
  The functions on single bytes, the program's and the reference's, each by a contract: In, Letter, Digit, Free, Stands, own, free.
-/
import Derived.Test.YtdmgbcpdkmljmaaRows
import Derived.WalkKit
import Derived.WalkLawsBesides
import Derived.WalkSpells
import Derived.WalkSmall
import Derived.Deep.QuietTactic
import Derived.BigQuiet
import Derived.Lib.Hide
namespace Go.Proofs.Ytdmgbcpdkmljmaa
open Go.RowKit

theorem ret_bool {a b : Bool} (h : a = b) : Ending.returned (.bool a) = .returned (.bool b) := by rw [h]
theorem ret_int {k : IntKind} {a b : Int} (h : a = b) : Ending.returned (.int k a) = .returned (.int k b) := by rw [h]
theorem ret_string {a b : ByteArray} (h : a = b) : Ending.returned (.string a) = .returned (.string b) := by rw [h]

theorem byte_eq_iff (a b : UInt8) : ((a.toNat : Int) == (b.toNat : Int)) = (a == b) := by
  rw [Bool.eq_iff_iff, beq_iff_eq, beq_iff_eq, Int.natCast_inj, UInt8.toNat_inj]

/-- Is the byte in the text? -/
def inS (s : ByteArray) (b : UInt8) : Bool := s.data.toList.contains b
/-- Is it among the first k? -/
def inTo (s : ByteArray) (k : Nat) (b : UInt8) : Bool := (s.data.toList.take k).contains b
theorem take_snoc (s : ByteArray) (k : Nat) (h : k < s.size) : s.data.toList.take (k + 1) = s.data.toList.take k ++ [s[k]] := by
  rw [List.take_succ_eq_append_getElem (by simpa using h)]; rfl
theorem inTo_zero (s : ByteArray) (b : UInt8) : inTo s 0 b = false := by simp [inTo]
theorem inTo_step (s : ByteArray) (k : Nat) (b : UInt8) (h : k < s.size) (h0 : inTo s k b = false) (h1 : ((s[k].toNat : Int) == (b.toNat : Int)) = false) : inTo s (k + 1) b = false := by
  rw [byte_eq_iff] at h1
  unfold inTo at *
  rw [take_snoc s k h]
  simp only [List.contains_eq_mem, List.mem_append, List.mem_singleton, decide_eq_false_iff_not] at *
  rintro (h2 | h2)
  · exact h0 h2
  · rw [h2] at h1; simp at h1
theorem inTo_hit (s : ByteArray) (k : Nat) (b : UInt8) (h : k < s.size) (h1 : ((s[k].toNat : Int) == (b.toNat : Int)) = true) : inS s b = true := by
  rw [byte_eq_iff] at h1
  have h2 : s[k] = b := by simpa using h1
  unfold inS
  rw [List.contains_iff_mem, ← h2]
  exact List.getElem_mem _
theorem inTo_all (s : ByteArray) (k : Nat) (b : UInt8) (h : ¬ k < s.size) (h0 : inTo s k b = false) : inS s b = false := by
  unfold inTo at h0
  rw [List.take_of_length_le (by simp; omega)] at h0
  exact h0

theorem in_any (b : UInt8) (s : ByteArray) (w : World) (hs : s.size ≤ 1048576) :
    Calls Try.prog 24 #[.int .u8 (b.toNat : Nat), .string s] w fun e w' => e = .returned (.bool (inS s b)) ∧ w = w' := by
  go_enter Try.func24, Try.ntmps24
  go_wp2
  go_loop [5] (fun i => ∃ k : Nat, k ≤ s.size ∧ i = .int .i64 (k : Nat) ∧ inTo s k b = false) (fun i => s.size - (intOf i).toNat)
  case atStart => exact ⟨0, Nat.zero_le _, rfl, inTo_zero s b⟩
  case round =>
    obtain ⟨k, hk, rfl, hno⟩ := hrel
    have HN := Lib.hid hno
    clear hno
    by_cases hlt : k < s.size
    · go_wp2
      · go_ret
        have h1 : ((s[k].toNat : Int) == (b.toNat : Int)) = true := by assumption
        exact ⟨ret_bool (inTo_hit s k b hlt h1).symm, rfl⟩
      · have h1 : ((s[k].toNat : Int) == (b.toNat : Int)) = false := by assumption
        go_round
        case rel => exact ⟨k + 1, by omega, by go_num, inTo_step s k b hlt HN.out h1⟩
        case measure => simp [intOf]; omega
    · go_wp2
      go_ret
      exact ⟨ret_bool (inTo_all s k b hlt HN.out).symm, rfl⟩

/-- A free byte, by the program's own words; over its number. -/
def freeI (n : Int) : Bool := decide (97 ≤ n ∧ n ≤ 122 ∨ 65 ≤ n ∧ n ≤ 90 ∨ 48 ≤ n ∧ n ≤ 57 ∨ n = 45 ∨ n = 46 ∨ n = 95 ∨ n = 126)

set_option maxHeartbeats 400000 in
theorem free_int (n : Int) (w : World) : Calls Try.prog 15 #[.int .u8 n] w fun e w' => e = .returned (.bool (freeI n)) ∧ w = w' := by
  go_enter Try.func15, Try.ntmps15
  go_wp2
  all_goals go_ret
  all_goals exact ⟨ret_bool (by rw [Bool.eq_iff_iff]; simp [freeI]; try omega), rfl⟩

def letterB (b : UInt8) : Bool := inS ⟨#[97, 98, 99, 100, 101, 102, 103, 104, 105, 106, 107, 108, 109, 110, 111, 112, 113, 114, 115, 116, 117, 118, 119, 120, 121, 122]⟩ b || inS ⟨#[65, 66, 67, 68, 69, 70, 71, 72, 73, 74, 75, 76, 77, 78, 79, 80, 81, 82, 83, 84, 85, 86, 87, 88, 89, 90]⟩ b

theorem letter_any (b : UInt8) (w : World) : Calls Try.prog 27 #[.int .u8 (b.toNat : Nat)] w fun e w' => e = .returned (.bool (letterB b)) ∧ w = w' := by
  go_enter Try.func27, Try.ntmps27
  go_wp2_with (go_at_call 24; refine (in_any b _ _ (by decide)).mono ?_; rintro e w' ⟨rfl, rfl⟩)
  all_goals go_ret
  all_goals exact ⟨ret_bool (by simp [letterB, *]), rfl⟩

def digitB (b : UInt8) : Bool := inS ⟨#[48, 49, 50, 51, 52, 53, 54, 55, 56, 57]⟩ b

theorem digit_any (b : UInt8) (w : World) : Calls Try.prog 28 #[.int .u8 (b.toNat : Nat)] w fun e w' => e = .returned (.bool (digitB b)) ∧ w = w' := by
  go_enter Try.func28, Try.ntmps28
  go_wp2_with (go_at_call 24; refine (in_any b _ _ (by decide)).mono ?_; rintro e w' ⟨rfl, rfl⟩)
  all_goals go_ret
  all_goals exact ⟨ret_bool (by simp [digitB]), rfl⟩

def refFree (b : UInt8) : Bool := letterB b || digitB b || inS ⟨#[45, 46, 95, 126]⟩ b

theorem refFree_any (b : UInt8) (w : World) : Calls Try.prog 22 #[.int .u8 (b.toNat : Nat)] w fun e w' => e = .returned (.bool (refFree b)) ∧ w = w' := by
  go_enter Try.func22, Try.ntmps22
  go_wp2_with (first
    | (go_at_call 27; refine (letter_any b _).mono ?_; rintro e w' ⟨rfl, rfl⟩)
    | (go_at_call 28; refine (digit_any b _).mono ?_; rintro e w' ⟨rfl, rfl⟩)
    | (go_at_call 24; refine (in_any b _ _ (by decide)).mono ?_; rintro e w' ⟨rfl, rfl⟩))
  all_goals go_ret
  all_goals exact ⟨ret_bool (by simp [refFree, *]), rfl⟩

/-- What may stand in a place, by the reference's words. -/
def refStands (b : UInt8) (p : Int) : Bool :=
  refFree b || ((p == 1 || p == 2) && inS ⟨#[47, 58, 64, 33, 36, 38, 39, 40, 41, 42, 43, 44, 59, 61]⟩ b) || (p == 2 && (b == 63))

theorem byte63 (b : UInt8) : ((b.toNat : Int) == 63) = (b == 63) := byte_eq_iff b 63

theorem stands_any (b : UInt8) (p : Int) (w : World) : Calls Try.prog 18 #[.int .u8 (b.toNat : Nat), .int .i64 p] w fun e w' => e = .returned (.bool (refStands b p)) ∧ w = w' := by
  go_enter Try.func18, Try.ntmps18
  go_wp2_with (first
    | (go_at_call 22; refine (refFree_any b _).mono ?_; rintro e w' ⟨rfl, rfl⟩)
    | (go_at_call 24; refine (in_any b _ _ (by decide)).mono ?_; rintro e w' ⟨rfl, rfl⟩))
  go_ways
  all_goals go_ret
  all_goals exact ⟨ret_bool (by simp [refStands, byte63, *]), rfl⟩

end Go.Proofs.Ytdmgbcpdkmljmaa
