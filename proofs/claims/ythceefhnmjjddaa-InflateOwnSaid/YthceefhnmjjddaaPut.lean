/-
  The closure of 'cordonlaw39.InflateOwn' that puts bits, by a contract: how many there are, whatever they are.
-/
import Derived.Test.YthceefhnmjjddaaReads
namespace Go.Proofs.Ythceefhnmjjddaa
open Go.RowKit

/-- The bits so far: a captured slice at block gb. -/
def Bitted (B gb base n : Nat) (w w' : World) : Prop := ∃ v l, Blk w' gb 22 #[v] ∧ w'.ownsRow base 5 1 v l.length (bytesV l) ∧ l.length = n ∧ base ≤ w'.heap.size ∧ Below B w w'
theorem Bitted.after {B gb base n m : Nat} {w x y : World} (h : Below B w x) (k : Bitted B gb base n x y) (e : n = m) : Bitted B gb base m w y := by
  subst e
  obtain ⟨v, l, h1, h2, h3, h4, h5⟩ := k
  exact ⟨v, l, h1, h2, h3, h4, h.trans h5⟩
theorem bitted_more {B gb base n d : Nat} {w w5 : World} {v' : Value} {l : List UInt8} (hb : Blk w5 gb 22 #[.slice none 0 0] ∨ True) (_hd : d < 2) (hB : B ≤ base ∧ B ≤ gb) (hbl : ∃ u, Blk w5 gb 22 #[u]) (hown : w5.ownsRow base 5 1 v' (l.length + 1) (bytesV l ++ [.int .u8 (d : Nat)])) (hl : l.length = n) (hbs : base ≤ w5.heap.size) (hw : Below B w w5) : Bitted B gb base (n + 1) w (w5.setCell ⟨gb, 0, none⟩ v') := by
  obtain ⟨u, hbl⟩ := hbl
  have e : bytesV (l ++ [d.toUInt8]) = bytesV l ++ [.int .u8 (d : Nat)] := by
    rw [bytesV_append]
    have : d.toUInt8.toNat = d := by simp; omega
    show bytesV l ++ [Value.int .u8 (d.toUInt8.toNat : Nat)] = _
    rw [this]
  have _ := hb
  refine ⟨v', l ++ [d.toUInt8], hbl.set_ 0 v', ?_, by simp; omega, by simpa [World.setCell] using hbs, hw.setCell hB.2 _⟩
  rw [e, List.length_append]
  exact own_set hown ⟨gb, 0, none⟩ v' (hbl.own_ne hown (by decide))

set_option maxHeartbeats 2000000 in
set_option maxRecDepth 100000 in
theorem put_any (B gb base n x : Nat) (size : Nat) (k : Int) (w0 w : World) (h : Bitted B gb base n w0 w) (hB : B ≤ base ∧ B ≤ gb) (hk : k = (size : Nat)) (hx : x < 32) (hs : size ≤ 8) (hn : n ≤ 10000) :
    Calls Try.prog 11 #[.int .i64 (x : Nat), .int .i64 k, .pointer (some ⟨gb, 0, none⟩)] w fun e w' => e = .returned (.tuple #[]) ∧ Bitted B gb base (n + size) w0 w' := by
  subst hk
  obtain ⟨i0, hi, hz0, hz1, hz2⟩ := info_parts info5
  go_enter Try.func11, Try.ntmps11
  go_wp2_with fail
  go_loopw [7] (fun i wr => ∃ j : Nat, i = .int .i64 (j : Nat) ∧ j ≤ size ∧ Bitted B gb base (n + j) w0 wr) (fun i _ => size - (intOf i).toNat)
  case atStart => exact ⟨0, rfl, Nat.zero_le _, h⟩
  case round =>
    clear h
    obtain ⟨j, rfl, hj, hbt⟩ := hrel
    by_cases hlt : j < size
    · obtain ⟨v, l, hbl, hown, hl, hbs, hbel⟩ := hbt
      obtain ⟨A3, c3, rfl⟩ := own_slice hown
      have hc0 := hbl.cell 0
      have hf0 := hbl.frozen 0
      simp at hc0
      have hj0 : (0 : Int) ≤ (j : Int) := by omega
      have hj64 : (j : Int) ≤ 64 := by omega
      obtain ⟨d, hd⟩ : ∃ d, x / 2 ^ j % 2 = d := ⟨_, rfl⟩
      have hd2 : d < 2 := by omega
      have hand : bits .and .i64 ((x : Int) / 2 ^ j) 1 = (d : Int) := by
        have := and1_i64 (x / 2 ^ j) (Nat.lt_of_le_of_lt (Nat.div_le_self _ _) (by omega))
        rw [hd] at this
        rw [← this]
        simp
      have hw8 : IntKind.u8.wrap (d : Int) = (d : Int) := IntWalk.u8_in _ (by omega)
      have HL := Lib.hid hl
      have hlb : l.length ≤ 20000 := by omega
      have hone := Lib.hid (one_u8 (d : Nat))
      have h63 := Lib.hid (le63_ (show l.length + 1 ≤ 3000000 by omega))
      have hown1 := own_drewN (hown.alloc (.cells #[.int .u8 (d : Nat)] 5)) 1
      have hsrc := cell_src wr (.int .u8 (d : Nat)) 5
      have hbl1 := (hbl.alloc (.cells #[.int .u8 (d : Nat)] 5)).drewN 1
      have hne1 := hbl1.own_ne hown1 (by decide)
      have hc0a : (wr.alloc (.cells #[.int .u8 (d : Nat)] 5)).cell? ⟨gb, 0, none⟩ = some (.slice A3 l.length c3) := (hbl.alloc (.cells #[.int .u8 (d : Nat)] 5)).cell 0
      clear hd hl
      go_wp2_with fail
      go_region_law (first | (refine step_append_src _ rfl (.tmp 10) (.tmp 16) 22 rfl base 5 i0 (.int .u8 0) 1 1 Try.underlying22 hi hz0 hz1 hz2 rfl (by decide) (.slice A3 l.length c3) l.length (bytesV l) (by go_simp) (by exact hown1) (some ⟨wr.heap.size, 0, none⟩) 1 1 [.int .u8 (d : Nat)] (by go_simp) rfl (by exact hsrc) hone.out h63.out.1 h63.out.2 (by simp; omega) ?_; intro v' w5 hown5 hgrow5; obtain ⟨A5, c5, rfl⟩ := own_slice hown5; have hbl5 := hbl1.grown hgrow5 hne1; have hc5 := hbl5.cell 0; have hf5 := hbl5.frozen 0; simp at hc5))
      all_goals
        have hfin := bitted_more (w := w0) (n := n + j) (.inr trivial) hd2 hB ⟨_, hbl5⟩ hown5 HL.out (Nat.le_trans hbs (Nat.le_trans (by simp) hgrow5.size)) ((below_drewN (hbel.alloc (by omega) _) 1).grown hgrow5 (by simp; omega) (fun k hk => by have := (hown1.lt k hk).1; omega))
        have HFIN := Lib.hid hfin
        clear hfin hown5 hgrow5 hc5 hf5 hc0 hf0 hc0a
        go_wp2
        go_roundw
        case rel => exact ⟨j + 1, by go_num, by omega, HFIN.out⟩
        case measure => simp [intOf]; omega
    · obtain rfl : j = size := by omega
      go_wp2
      go_end0
      exact ⟨rfl, hbt⟩

end Go.Proofs.Ythceefhnmjjddaa
