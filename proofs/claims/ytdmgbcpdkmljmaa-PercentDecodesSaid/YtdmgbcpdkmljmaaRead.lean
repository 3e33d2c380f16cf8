/-
  digit and read, by contracts.
-/
import Derived.Test.YtdmgbcpdkmljmaaEncode
import Derived.Lib.SlBytesConst
import Derived.Deep.RegionHeld3
namespace Go.Proofs.Ytdmgbcpdkmljmaa
open Go.RowKit

def upB (b : UInt8) : UInt8 := if 97 ≤ b.toNat ∧ b.toNat ≤ 102 then b - 32 else b
/-- The number of a hexadecimal digit; -1: it is none. -/
def digN (b : UInt8) : Int := Lib.indexByte D16.data.toList (upB b)

theorem D16_len : D16.data.toList.length = 16 := rfl

theorem D16_cells (w : World) (fr : Nat × Nat) : BytesAt (w.alloc (.cells #[.int .u8 48, .int .u8 49, .int .u8 50, .int .u8 51, .int .u8 52, .int .u8 53, .int .u8 54, .int .u8 55, .int .u8 56, .int .u8 57, .int .u8 65, .int .u8 66, .int .u8 67, .int .u8 68, .int .u8 69, .int .u8 70] 5 fr)) (some ⟨w.heap.size, 0, none⟩) D16.data.toList := by
  refine .inr ⟨_, 0, rfl, by simp, fun i hi => ?_⟩
  refine (cell_of_row (w.alloc _) w.heap.size (0 + i) _ _ _ (heap_alloc_new w _)).trans ?_
  have h : i < 16 := hi
  rcases i with _ | _ | _ | _ | _ | _ | _ | _ | _ | _ | _ | _ | _ | _ | _ | _ | i <;> first | rfl | omega

theorem upB_of (b : UInt8) (h1 : (97 : Int) ≤ b.toNat) (h2 : (b.toNat : Int) ≤ 102) : ((upB b).toNat : Int) = (b.toNat : Int) - 32 := by
  unfold upB
  rw [if_pos (by omega), UInt8.toNat_sub]
  have e : (32 : UInt8).toNat = 32 := rfl
  rw [e]
  omega
theorem upB_not (b : UInt8) (h : (b.toNat : Int) < 97 ∨ (102 : Int) < b.toNat) : upB b = b := by
  unfold upB
  rw [if_neg (by omega)]

theorem index_int (A : Option Addr) (l : List UInt8) (n c : Nat) (b : UInt8) (k : Int) (w : World) (h : BytesAt w A l) (hn : n = l.length) (hk : k = (b.toNat : Nat)) :
    Calls Try.prog 16 #[.slice A n c, .int .u8 k] w fun e w' => e = .returned (.int .i64 (Lib.indexByte l b)) ∧ w = w' := by
  subst hk; exact index_at A l n c b w h hn

set_option maxRecDepth 100000 in
theorem digit_at_any (b : UInt8) (w : World) : Calls Try.prog 25 #[.int .u8 (b.toNat : Nat)] w fun e w' => e = .returned (.int .i64 (digN b)) ∧ Below w.heap.size w w' := by
  have hlt := b.toNat_lt
  have kc := fun (w : World) (C : Array Value) (n c : Nat) => Lib.run_convert_bytes_const (P := Try.prog) w 22 5 C n c Try.underlying22 Try.underlying5
  by_cases h : (97 : Int) ≤ b.toNat ∧ (b.toNat : Int) ≤ 102
  · have hu := Lib.hid (upB_of b h.1 h.2)
    obtain ⟨h1, h2⟩ := h
    go_enter Try.func25, Try.ntmps25
    go_wp2_with fail
    refine (index_int _ D16.data.toList _ _ (upB b) _ _ (by exact D16_cells w _) rfl hu.out.symm).mono ?_
    rintro e w1 ⟨rfl, rfl⟩
    go_wp2
    go_ret
    exact ⟨rfl, (Below.refl _ w).alloc (Nat.le_refl _) _⟩
  · have h' : (b.toNat : Int) < 97 ∨ (102 : Int) < b.toNat := by omega
    have hu := Lib.hid (upB_not b h')
    clear h
    rcases h' with h | h
    · go_enter Try.func25, Try.ntmps25
      go_wp2_with fail
      refine (index_int _ D16.data.toList _ _ (upB b) _ _ (by exact D16_cells w _) rfl (by rw [hu.out])).mono ?_
      rintro e w1 ⟨rfl, rfl⟩
      go_wp2
      go_ret
      exact ⟨rfl, (Below.refl _ w).alloc (Nat.le_refl _) _⟩
    · have h'' : (97 : Int) ≤ b.toNat := by omega
      go_enter Try.func25, Try.ntmps25
      go_wp2_with fail
      refine (index_int _ D16.data.toList _ _ (upB b) _ _ (by exact D16_cells w _) rfl (by rw [hu.out])).mono ?_
      rintro e w1 ⟨rfl, rfl⟩
      go_wp2
      go_ret
      exact ⟨rfl, (Below.refl _ w).alloc (Nat.le_refl _) _⟩

/-- What the first byte of a text is, and how many it takes; 0: it has no form. -/
def readV (x : UInt8) (r : List UInt8) : UInt8 × Nat :=
  if x ≠ 37 then (x, 1)
  else match r with
    | y :: z :: _ => if digN y < 0 ∨ digN z < 0 then (0, 0) else ((16 * (digN y).toNat + (digN z).toNat).toUInt8, 3)
    | _ => (0, 0)

/-- The i-th cell of a slice of bytes. -/
theorem BytesAt.cellAt {w : World} {b o : Nat} {l : List UInt8} (h : BytesAt w (some ⟨b, o, none⟩) l) (i : Nat) (hi : i < l.length) : w.cell? ⟨b, o + i, none⟩ = some (.int .u8 ((l.getD i 0).toNat : Nat)) := by
  rcases h with rfl | ⟨b', o', e, _, hc⟩
  · simp at hi
  · injection e with e
    injection e with e1 e2
    subst e1 e2
    exact hc i hi

theorem read_plain (b o : Nat) (x : UInt8) (r : List UInt8) (n c : Nat) (w : World) (h : BytesAt w (some ⟨b, o, none⟩) (x :: r)) (hn : n = r.length + 1) (hx : x ≠ 37) :
    Calls Try.prog 20 #[.slice (some ⟨b, o, none⟩) n c] w fun e w' => e = .returned (.tuple #[.int .u8 (x.toNat : Nat), .int .i64 1]) ∧ w = w' := by
  have h0 := h.cellAt 0 (by simp)
  simp only [Nat.add_zero, List.getD_cons_zero] at h0
  have hne : ((x.toNat : Int) == 37) = false := by
    have := byte_eq_iff x 37
    rw [show (((37 : UInt8).toNat : Int)) = 37 from rfl] at this
    rw [this]; simpa using hx
  have hpos : (0 : Int) < (n : Int) := by omega
  go_enter Try.func20, Try.ntmps20
  go_wp2
  go_ret2
  exact ⟨rfl, rfl⟩

theorem digN_bound : ∀ n : Nat, n < 256 → digN n.toUInt8 ≤ 15 ∧ -1 ≤ digN n.toUInt8 := by decide +kernel
theorem digN_le (b : UInt8) : digN b ≤ 15 ∧ -1 ≤ digN b := by
  have := digN_bound b.toNat b.toNat_lt
  rwa [show b.toNat.toUInt8 = b by simp] at this

theorem read_short (b o : Nat) (r : List UInt8) (n c : Nat) (w : World) (h : BytesAt w (some ⟨b, o, none⟩) (37 :: r)) (hn : n = r.length + 1) (hr : r.length < 2) :
    Calls Try.prog 20 #[.slice (some ⟨b, o, none⟩) n c] w fun e w' => e = .returned (.tuple #[.int .u8 0, .int .i64 0]) ∧ w = w' := by
  have h0 := h.cellAt 0 (by simp)
  have e0 : (((37 :: r).getD 0 0).toNat : Int) = 37 := rfl
  simp only [Nat.add_zero, e0] at h0
  clear e0
  have hpos : (0 : Int) < (n : Int) := by omega
  have h3 : (n : Int) < 3 := by omega
  go_enter Try.func20, Try.ntmps20
  go_wp2
  go_ret2
  exact ⟨rfl, rfl⟩

theorem comb : ∀ p : Nat, p < 16 → ∀ q : Nat, q < 16 → IntKind.u8.wrap (bits .or .i64 (IntKind.i64.wrap ((p : Int) * 16)) (q : Int)) = ((16 * p + q).toUInt8.toNat : Int) := by decide +kernel
theorem comb_at (y z : UInt8) (h1 : 0 ≤ digN y) (h2 : digN y ≤ 15) (h3 : 0 ≤ digN z) (h4 : digN z ≤ 15) :
    IntKind.u8.wrap (bits .or .i64 (IntKind.i64.wrap (digN y * 16)) (digN z)) = ((16 * (digN y).toNat + (digN z).toNat).toUInt8.toNat : Int) := by
  have e1 : ((digN y).toNat : Int) = digN y := Int.toNat_of_nonneg h1
  have e2 : ((digN z).toNat : Int) = digN z := Int.toNat_of_nonneg h3
  have := comb (digN y).toNat (by omega) (digN z).toNat (by omega)
  rw [e1, e2] at this
  exact this
theorem tuple_u8 {a b : Int} {k : Value} (h : a = b) : Ending.returned (.tuple #[.int .u8 a, k]) = .returned (.tuple #[.int .u8 b, k]) := by rw [h]

set_option maxRecDepth 100000 in
theorem read_coded (b o : Nat) (y z : UInt8) (r : List UInt8) (n c : Nat) (w : World) (h : BytesAt w (some ⟨b, o, none⟩) (37 :: y :: z :: r)) (hn : n = r.length + 3) :
    Calls Try.prog 20 #[.slice (some ⟨b, o, none⟩) n c] w fun e w' => e = .returned (.tuple #[.int .u8 ((readV 37 (y :: z :: r)).1.toNat : Nat), .int .i64 ((readV 37 (y :: z :: r)).2 : Nat)]) ∧ Below w.heap.size w w' := by
  have h0 := h.cellAt 0 (by simp)
  have e0 : (((37 :: y :: z :: r).getD 0 0).toNat : Int) = 37 := rfl
  simp only [Nat.add_zero, e0] at h0
  clear e0
  have h1 := h.cellAt 1 (by simp)
  have h2 := h.cellAt 2 (by simp)
  simp only [List.getD_cons_succ, List.getD_cons_zero] at h1 h2
  have hblt : b < w.heap.size := World.block_lt_of_cell? _ _ h0
  have hpos : (0 : Int) < (n : Int) := by omega
  have hpos1 : (1 : Int) < (n : Int) := by omega
  have hpos2 : (2 : Int) < (n : Int) := by omega
  have h3 : ¬ (n : Int) < 3 := by omega
  have hy := digN_le y
  have hz := digN_le z
  clear h
  by_cases hy0 : digN y < 0
  · have hrv : readV 37 (y :: z :: r) = (0, 0) := by unfold readV; rw [if_neg (by simp)]; simp only; rw [if_pos (.inl hy0)]
    rw [hrv]
    clear hrv
    go_enter Try.func20, Try.ntmps20
    go_wp2_with (go_at_call 25; refine (digit_at_any y _).mono ?_; rintro e w1 ⟨rfl, hb1⟩)
    go_ret2
    exact ⟨rfl, hb1⟩
  · by_cases hz0 : digN z < 0
    · have hrv : readV 37 (y :: z :: r) = (0, 0) := by unfold readV; rw [if_neg (by simp)]; simp only; rw [if_pos (.inr hz0)]
      rw [hrv]
      clear hrv
      go_enter Try.func20, Try.ntmps20
      go_wp2_with fail
      refine (digit_at_any y _).mono ?_
      rintro e w1 ⟨rfl, hb1⟩
      have h2' := (hb1.cell (p := ⟨b, o + 2, none⟩) hblt).trans h2
      go_wp2_with fail
      refine (digit_at_any z _).mono ?_
      rintro e w2 ⟨rfl, hb2⟩
      go_wp2
      go_ret2
      exact ⟨rfl, hb1.trans (hb2.mono hb1.size)⟩
    · have hrv : readV 37 (y :: z :: r) = ((16 * (digN y).toNat + (digN z).toNat).toUInt8, 3) := by unfold readV; rw [if_neg (by simp)]; simp only; rw [if_neg (by omega)]
      rw [hrv]
      have HRV := Lib.hid hrv
      clear hrv
      go_enter Try.func20, Try.ntmps20
      go_wp2_with fail
      refine (digit_at_any y _).mono ?_
      rintro e w1 ⟨rfl, hb1⟩
      have h1' := (hb1.cell (p := ⟨b, o + 1, none⟩) hblt).trans h1
      have h2' := (hb1.cell (p := ⟨b, o + 2, none⟩) hblt).trans h2
      go_wp2_with fail
      refine (digit_at_any z _).mono ?_
      rintro e w2 ⟨rfl, hb2⟩
      have hb2' := hb1.trans (hb2.mono hb1.size)
      have h1'' := (hb2'.cell (p := ⟨b, o + 1, none⟩) hblt).trans h1
      have h2'' := (hb2'.cell (p := ⟨b, o + 2, none⟩) hblt).trans h2
      have hcells : ∀ W : World, Below w.heap.size w W → Below w.heap.size w W ∧ W.cell? ⟨b, o + 1, none⟩ = some (.int .u8 (y.toNat : Nat)) ∧ W.cell? ⟨b, o + 2, none⟩ = some (.int .u8 (z.toNat : Nat)) :=
        fun W hW => ⟨hW, (hW.cell (p := ⟨b, o + 1, none⟩) hblt).trans h1, (hW.cell (p := ⟨b, o + 2, none⟩) hblt).trans h2⟩
      have HC := Lib.hid hcells
      have hstep : ∀ (W W' : World), (Below w.heap.size w W ∧ W.cell? ⟨b, o + 1, none⟩ = some (.int .u8 (y.toNat : Nat)) ∧ W.cell? ⟨b, o + 2, none⟩ = some (.int .u8 (z.toNat : Nat))) → Below W.heap.size W W' → Below w.heap.size w W' :=
        fun _ _ hS hb => hS.1.trans (hb.mono hS.1.size)
      have HS := Lib.hid hstep
      clear hcells hstep
      go_wp2_with fail
      go_region_held3 (fun W => Below w.heap.size w W ∧ W.cell? ⟨b, o + 1, none⟩ = some (.int .u8 (y.toNat : Nat)) ∧ W.cell? ⟨b, o + 2, none⟩ = some (.int .u8 (z.toNat : Nat)))
        (first | exact HC.out _ hb2'.drew | exact HC.out _ hb4)
        (first | (go_at_call 25; refine (digit_at_any _ _).mono ?_; rintro e w3 ⟨rfl, hb3⟩; have hb4 := HS.out _ _ (by assumption) hb3))
      go_wp2
      go_ret2
      exact ⟨tuple_u8 (comb_at y z (by omega) hy.1 (by omega) hz.1), hb4⟩

end Go.Proofs.Ytdmgbcpdkmljmaa
