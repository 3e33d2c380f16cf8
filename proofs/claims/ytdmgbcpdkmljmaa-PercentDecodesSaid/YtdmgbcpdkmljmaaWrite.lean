/-
  write: a byte, encoded, behind what a slice of the call's own holds; by a contract.
-/
import Derived.Test.YtdmgbcpdkmljmaaHex
import Derived.Deep.RegionHeld3
import Derived.Deep.AppendLies
namespace Go.Proofs.Ytdmgbcpdkmljmaa
open Go.RowKit

theorem info5 : (Try.prog.info? 5).map (fun i => (i.zero, i.size, i.bytes)) = some (some (.int .u8 0), 1, 1) := by kernel_rfl

def bytesV (l : List UInt8) : List Value := l.map fun b => .int .u8 (b.toNat : Nat)
theorem bytesV_append (l m : List UInt8) : bytesV (l ++ m) = bytesV l ++ bytesV m := by simp [bytesV]
theorem bytesV_length (l : List UInt8) : (bytesV l).length = l.length := by simp [bytesV]
theorem bytesV_one (l : List UInt8) : ∀ u ∈ bytesV l, u.oneCell' = true := by
  intro u hu
  simp only [bytesV, List.mem_map] at hu
  obtain ⟨b, _, rfl⟩ := hu
  rfl

/-- v' holds just l', among the call's own from base on; what v lay in may be written, all else lies as it lay. -/
def Wrote (base : Nat) (l' : List UInt8) (w : World) (v : Value) (e : Ending) (w' : World) : Prop :=
  ∃ v', e = .returned v' ∧ w'.ownsRow base 5 1 v' l'.length (bytesV l') ∧ w.grownBy w' v.ownBlock

theorem and15 : ∀ n : Nat, n < 256 → bits .and .u8 (n : Int) 15 = (n : Int) % 16 := by decide +kernel
theorem digit_at : ∀ k : Nat, (h : k < 16) → ((⟨#[48, 49, 50, 51, 52, 53, 54, 55, 56, 57, 65, 66, 67, 68, 69, 70]⟩ : ByteArray)[k]'h).toNat = (hx k).toNat := by decide +kernel
theorem run_digit (k : Nat) (i : Int) (hk : k < 16) (hi : i = (k : Int)) (W : World) :
    (Instr.index 9 (.string ⟨#[48, 49, 50, 51, 52, 53, 54, 55, 56, 57, 65, 66, 67, 68, 69, 70]⟩) (.int .u8 i)).run Try.prog W = .ok (.int .u8 ((hx k).toNat : Nat)) W := by
  subst hi
  rw [run_index_string W 9 _ .u8 (k : Int) Try.underlying9, dif_pos ⟨by omega, by show (k : Int) < 16; omega⟩]
  simp only [Int.toNat_natCast]
  rw [digit_at k hk]

theorem grown_from_alloc {w w1 : World} {row : Option Nat} {o : Obj} (h : ((w.alloc o).drew).grownBy w1 row) : w.grownBy w1 row :=
  ⟨h.os, h.tape, h.output, Nat.le_trans (by simp) h.size, fun k hk hne => (h.block k (by simp; omega) hne).trans (Below.heap_alloc w o k hk)⟩
theorem grown_from_alloc' {w w1 : World} {row : Option Nat} {o : Obj} (h : (w.alloc o).grownBy w1 row) : w.grownBy w1 row :=
  ⟨h.os, h.tape, h.output, Nat.le_trans (by simp) h.size, fun k hk hne => (h.block k (by simp; omega) hne).trans (Below.heap_alloc w o k hk)⟩

theorem wrote_of {base : Nat} {v v' : Value} {l : List UInt8} {n : Nat} {w w1 : World}
    (hown : w1.ownsRow base 5 1 v' (l.length + 3) (bytesV l ++ [.int .u8 37, .int .u8 ((hx (n / 16)).toNat : Nat), .int .u8 ((hx (n % 16)).toNat : Nat)])) (hg : w.grownBy w1 v.ownBlock) :
    Wrote base (l ++ 37 :: hexL n) w v (.returned v') w1 := by
  refine ⟨v', rfl, ?_, hg⟩
  have e1 : (l ++ 37 :: hexL n).length = l.length + 3 := by simp [hexL]
  have e2 : bytesV (l ++ 37 :: hexL n) = bytesV l ++ [.int .u8 37, .int .u8 ((hx (n / 16)).toNat : Nat), .int .u8 ((hx (n % 16)).toNat : Nat)] := by
    rw [bytesV_append]; rfl
  rw [e1, e2]
  exact hown

set_option maxRecDepth 100000 in
theorem write_any (base : Nat) (v : Value) (l : List UInt8) (n : Nat) (w : World) (hn : n < 256) (hown : w.ownsRow base 5 1 v l.length (bytesV l)) (hbase : base ≤ w.heap.size) (hl : l.length ≤ 1048576) :
    Calls Try.prog 17 #[v, .int .u8 (n : Nat)] w (Wrote base (l ++ 37 :: hexL n) w v) := by
  obtain ⟨i0, hi, hz0, hz1, hz2⟩ := info_parts info5
  have h1 := run_digit (n / 16) ((n : Int) / 16) (by omega) (by omega)
  have h2 := run_digit (n % 16) ((n : Int) % 16) (by omega) (by omega)
  have h3 := and15 n hn
  go_enter Try.func17, Try.ntmps17
  go_wp2_with fail
  go_region_held3 (fun _ => True) (trivial)
    (first | (refine step_append_lies _ (by rfl) _ _ _ (by rfl) base 5 i0 _ 1 1 Try.underlying22 hi hz0 hz1 hz2 rfl (by omega) v l.length (bytesV l) (by rfl) ((hown.alloc _).drew) ⟨w.heap.size, 0, none⟩ 3 3 [.int .u8 37, .int .u8 ((hx (n / 16)).toNat : Nat), .int .u8 ((hx (n % 16)).toNat : Nat)] (by rfl) (by rfl) (World.news_of_block (cs := #[.int .u8 37, .int .u8 ((hx (n / 16)).toNat : Nat), .int .u8 ((hx (n % 16)).toNat : Nat)]) (t := 5) (fr := (0, 0)) (heap_alloc_new w _)) (by simp [Value.oneCell']) (by omega) (by unfold maxLen; omega) (by omega) (by simp; omega) (w.heap.size + 1) (by simp) ?_; intro gg cap w1 hown1 hgrow hat hlt))
  all_goals go_wp2
  all_goals go_ret
  all_goals exact wrote_of hown1 (grown_from_alloc hgrow)

end Go.Proofs.Ytdmgbcpdkmljmaa
