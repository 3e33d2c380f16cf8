/-
  '(*packer).bit': one more bit.
-/
import Derived.Test.YthceefhnmjjddaaFixText
import Derived.Test.YthceefhnmjjddaaStore
import Derived.BigRegion
namespace Go.Proofs.Ythceefhnmjjddaa
open Go.RowKit

/-- The packer at block pb: so many bits, laid into bytes. -/
def Packing (B pb base : Nat) (bs : List Nat) (w w' : World) : Prop := ∃ v, Blk w' pb 73 #[v, .int .i64 (bs.length : Nat)] ∧ Bin bs ∧ w'.ownsRow base 5 1 v (textOf bs).length (bytesV (textOf bs)) ∧ base ≤ w'.heap.size ∧ Below B w w'
theorem or_val (a z : Nat) (ha : a < 256) (hz : z < 256) : bits .or .u8 (a : Int) (z : Int) = ((a ||| z : Nat) : Int) :=
  (bits_nat .u8 8 (by decide) (fun n h₀ h₁ => by rw [IntKind.wrap_u8]; omega) a z (by omega) (by omega)).2
theorem and1_u64 (n : Nat) (h : n < 2 ^ 64) : bits .and .u64 (n : Int) 1 = ((n % 2 : Nat) : Int) := by
  rw [show (1 : Int) = ((1 : Nat) : Int) from rfl, (bits_nat .u64 64 (by decide) (fun n h₀ h₁ => by rw [IntKind.wrap_u64]; omega) n 1 (by omega) (by omega)).1, Nat.and_one_is_mod]
theorem Bin.snoc {bs : List Nat} (h : Bin bs) (d : Nat) (hd : d < 2) : Bin (bs ++ [d]) := h.append (by
  intro I
  match I with
  | 0 => exact hd
  | I + 1 => simp)

theorem pack_next {B pb base g i n : Nat} {bs : List Nat} {d : Nat} {w0 w9 : World} {v' u : Value} (hbl : Blk w9 pb 73 #[v', .int .i64 (n : Nat)]) (hset : (w9.setCell ⟨g, i, none⟩ u).ownsRow base 5 1 v' (textOf (bs ++ [d])).length (bytesV (textOf (bs ++ [d])))) (hg : g ≠ pb) (hgB : B ≤ g) (hpB : B ≤ pb) (hn : bs.length = n) (hbin : Bin bs) (hd : d < 2) (hbs : base ≤ w9.heap.size) (hbel : Below B w0 w9) :
    Packing B pb base (bs ++ [d]) w0 ((w9.setCell ⟨g, i, none⟩ u).drew.setCell ⟨pb, 1, none⟩ (.int .i64 ((n : Int) + 1))) := by
  have h1 : Blk (w9.setCell ⟨g, i, none⟩ u).drew pb 73 #[v', .int .i64 (n : Nat)] := (hbl.far (p := ⟨g, i, none⟩) (fun e => hg e.symm) u).drewN 1
  have h2 := h1.set_ 1 (.int .i64 ((n : Int) + 1))
  refine ⟨v', ?_, hbin.snoc d hd, ?_, by simpa [World.setCell] using hbs, ((hbel.setCell hgB _).drew).setCell hpB _⟩
  · rw [List.length_append, hn]; exact h2
  · exact own_set (own_drewN hset 1) ⟨pb, 1, none⟩ _ (h1.own_ne (own_drewN hset 1) (by decide))

set_option maxHeartbeats 2000000 in
set_option maxRecDepth 100000 in
theorem packbit_any (B pb base : Nat) (bs : List Nat) (b : Nat) (w0 w : World) (h : Packing B pb base bs w0 w) (hB : B ≤ base ∧ B ≤ pb) (hb : b < 2 ^ 64) (hn : bs.length ≤ 30000) :
    Calls Try.prog 31 #[.pointer (some ⟨pb, 0, none⟩), .int .u64 (b : Nat)] w fun e w' => e = .returned (.tuple #[]) ∧ Packing B pb base (bs ++ [b % 2]) w0 w' := by
  obtain ⟨i0, hi, hz0, hz1, hz2⟩ := info_parts info5
  obtain ⟨v, hbl, hbin, hown, hbs, hbel⟩ := h
  obtain ⟨d, hd⟩ : ∃ d, b % 2 = d := ⟨_, rfl⟩
  have hd2 : d < 2 := by omega
  have hand : bits .and .u64 (b : Int) 1 = (d : Int) := by rw [and1_u64 b hb, hd]
  rw [hd]
  clear hd hb
  have hlen := textOf_length bs
  have hL : (textOf bs).length ≤ 4000 := by omega
  obtain ⟨n, hn2⟩ : ∃ n, bs.length = n := ⟨_, rfl⟩
  obtain ⟨e, he⟩ : ∃ e, n % 8 = e := ⟨_, rfl⟩
  have heI : (n : Int) % 8 = (e : Int) := by omega
  have heT : (n : Int).tmod 8 = (e : Int) := by rw [Int.tmod_eq_emod_of_nonneg (by omega)]; exact heI
  have hc0 := hbl.cell 0
  have hc1 := hbl.cell 1
  have hf0 := hbl.frozen 0
  have hf1 := hbl.frozen 1
  rw [hn2] at hc1
  simp at hc0 hc1
  have hnI : (n : Int) ≤ 30000 := by omega
  obtain ⟨A3, c3, rfl⟩ := own_slice hown
  by_cases hz : e = 0
  · have hzb : ((e : Int) == 0) = true := by simp; omega
    have hone := Lib.hid (one_u8 0)
    have h63 := Lib.hid (le63_ (show (textOf bs).length + 1 ≤ 3000000 by omega))
    have hown1 := hown.alloc (.cells #[.int .u8 0] 5)
    have hsrc := cell_src w (.int .u8 0) 5
    have hbl1 := hbl.alloc (.cells #[.int .u8 0] 5)
    have hne1 := hbl1.own_ne hown1 (by decide)
    have hc0a : (w.alloc (.cells #[.int .u8 0] 5)).cell? ⟨pb, 0, none⟩ = some (.slice A3 (textOf bs).length c3) := (hbl.alloc (.cells #[.int .u8 0] 5)).cell 0
    have HLEN := Lib.hid hlen
    clear hlen
    generalize hT : textOf bs = T at *
    go_enter Try.func31, Try.ntmps31
    have h63' := h63.out
    go_wp2_with (at_builtin; go_loud (refine wpList_append_src _ rfl (.tmp 14) (.tmp 15) 22 rfl base 5 i0 (.int .u8 0) 1 1 Try.underlying22 hi hz0 hz1 hz2 rfl (by decide) (.slice A3 T.length c3) T.length (bytesV T) rfl hown1 (some ⟨w.heap.size, 0, none⟩) 1 1 [.int .u8 0] rfl rfl hsrc hone.out h63.out.1 h63.out.2 (Nat.le_trans hbs (by simp)) ?_; intro v' w9 hown9 hgrow9; obtain ⟨A5, c5, rfl⟩ := own_slice hown9; have hbl9 := hbl1.grown hgrow9 hne1; have hc9 : w9.cell? ⟨pb, 0, none⟩ = some (.slice A3 T.length c3) := hbl9.cell 0; have hf9 := hbl9.frozen 0))
    have hw10 : ∃ x, x = w9.setCell ⟨pb, 0, none⟩ (.slice A5 (T.length + 1 : Nat) c5) := ⟨_, rfl⟩
    obtain ⟨w10, hw10⟩ := hw10
    have hbl10 : Blk w10 pb 73 #[.slice A5 (T.length + 1 : Nat) c5, .int .i64 (n : Nat)] := by rw [hw10, ← hn2]; exact hbl9.set_ 0 _
    have hown10 : w10.ownsRow base 5 1 (.slice A5 (T ++ [0]).length c5) (T ++ [0]).length (bytesV (T ++ [0])) := by
      rw [hw10, List.length_append, bytesV_append]
      exact own_set hown9 ⟨pb, 0, none⟩ _ (hbl9.own_ne hown9 (by decide))
    have hbel9 : Below B w0 w9 := (hbel.alloc (Nat.le_trans hB.1 hbs) _).grown hgrow9 (by simp; omega) (fun k hk => by have := (hown1.lt k hk).1; omega)
    have hbel10 : Below B w0 w10 := by rw [hw10]; exact hbel9.setCell hB.2 _
    have hbs10 : base ≤ w10.heap.size := by rw [hw10]; have := hgrow9.size; simp [World.setCell] at *; omega
    have hd8 : d.toUInt8.toNat = d := by simp; omega
    have htext : textOf (bs ++ [d]) = (T ++ [0]).set ((T ++ [0]).length - 1) d.toUInt8 := by
      rw [textOf_new bs d (by omega), hT]
      simp
    have hold : (T ++ [0]).getD ((T ++ [0]).length - 1) 0 = (0 : UInt8) := by simp [List.getD_eq_getElem?_getD]
    rw [← hw10]
    clear hown9 hgrow9 hown1 hsrc hbl9 hc9 hf9 hbl1 hne1 hbel9 hw10 hc0 hf0 hc1 hf1 hc0a
    have hlT : (T ++ [0]).length = T.length + 1 := by simp
    obtain ⟨g9, hA, hg9, hc9, hf9, hset9⟩ := own_store_ (x := d.toUInt8) hown10 (show (T ++ [0]).length - 1 < (T ++ [0]).length by simp)
    subst hA
    rw [hold] at hc9
    rw [← htext, hd8] at hset9
    have hgp : g9 ≠ pb := fun e => hbl10.own_ne hown10 (by decide) (by rw [← e]; rfl)
    rw [hlT] at hset9 hc9 hf9 hown10
    rw [show T.length + 1 - 1 = T.length by omega] at hset9 hc9 hf9
    have hfin := Lib.hid (pack_next hbl10 (by exact hset9) hgp (by omega) hB.2 hn2 hbin hd2 hbs10 hbel10)
    have hfar := hbl10.far (p := ⟨g9, T.length, none⟩) (fun e => hgp e.symm) (.int .u8 (d : Nat))
    have hx1 : (w10.setCell ⟨g9, T.length, none⟩ (.int .u8 (d : Nat))).cell? ⟨pb, 1, none⟩ = some (.int .i64 (n : Nat)) := hfar.cell 1
    have hxf := hfar.frozen 1
    have hp0 : w10.cell? ⟨pb, 0, none⟩ = some (.slice (some ⟨g9, 0, none⟩) (T.length + 1) c5) := hbl10.cell 0
    have hp1 : w10.cell? ⟨pb, 1, none⟩ = some (.int .i64 (n : Nat)) := hbl10.cell 1
    replace hc9 : w10.cell? ⟨g9, T.length, none⟩ = some (.int .u8 0) := hc9
    have hor : bits .or .u8 0 ((d : Int) * 2 ^ e % 256) = (d : Int) := by
      rw [hz, show ((d : Int) * 2 ^ 0 % 256) = ((d : Nat) : Int) by omega]
      rw [show (0 : Int) = ((0 : Nat) : Int) from rfl, or_val 0 d (by omega) (by omega), Nat.zero_or]
    have hd8w : IntKind.u8.wrap (d : Int) = (d : Int) := IntWalk.u8_in _ (by omega)
    have hm1 : IntKind.i64.wrap ((T.length : Int) + 1 - 1) = (T.length : Int) := by rw [IntKind.wrap_i64]; omega
    have heI8 : (e : Int) ≤ 8 := by omega
    clear hset9 hfar hbl10 hown10 hz hbl hown htext hold hlT
    go_region
    all_goals
      clear hc9 hor hm1
      go_wp2
      go_end0
      exact ⟨rfl, hfin.out⟩
  · have hzb : ((e : Int) == 0) = false := by simp; omega
    obtain ⟨old, hold, hlt, htext⟩ := textOf_or bs d hbin hd2 (by omega)
    rw [hn2, he] at hlt htext
    have hTpos : 0 < (textOf bs).length := by omega
    have hlen2 : (textOf (bs ++ [d])).length = (textOf bs).length := by rw [htext, List.length_set]
    have HLEN := Lib.hid hlen
    clear hlen
    generalize hT : textOf bs = T at *
    obtain ⟨m, hm⟩ : ∃ m, T.length = m + 1 := ⟨T.length - 1, by omega⟩
    have hp2 : d * 2 ^ e < 256 := Nat.lt_of_le_of_lt Nat.right_le_or hlt
    have hor : bits .or .u8 (old.toNat : Nat) ((d : Int) * 2 ^ e % 256) = ((old.toNat ||| d * 2 ^ e : Nat) : Int) := by
      have h1 : (d : Int) * 2 ^ e = ((d * 2 ^ e : Nat) : Int) := by simp
      have h2 : ((d * 2 ^ e : Nat) : Int) % 256 = ((d * 2 ^ e : Nat) : Int) := by omega
      rw [h1, h2]
      exact or_val _ _ old.toNat_lt hp2
    obtain ⟨q, hq⟩ : ∃ q, old.toNat ||| d * 2 ^ e = q := ⟨_, rfl⟩
    rw [hq] at hor hlt htext
    have hr : q.toUInt8.toNat = q := by simp; omega
    obtain ⟨g9, rfl, hg9, hc9, hf9, hset9⟩ := own_store_ (x := q.toUInt8) hown (show T.length - 1 < T.length by omega)
    rw [hold] at hc9
    rw [← htext, hr] at hset9
    have hgp : g9 ≠ pb := fun e => hbl.own_ne hown (by decide) (by rw [← e]; rfl)
    have hm2 : T.length - 1 = m := by omega
    rw [hm2] at hset9 hc9 hf9
    rw [hn2] at hbl
    have hfin := Lib.hid (pack_next hbl (by exact hset9) hgp (by omega) hB.2 hn2 hbin hd2 hbs hbel)
    have hfar := hbl.far (p := ⟨g9, m, none⟩) (fun e => hgp e.symm) (.int .u8 (q : Nat))
    have hx1 : (w.setCell ⟨g9, m, none⟩ (.int .u8 (q : Nat))).cell? ⟨pb, 1, none⟩ = some (.int .i64 (n : Nat)) := hfar.cell 1
    have hxf := hfar.frozen 1
    have hd8w : IntKind.u8.wrap (d : Int) = (d : Int) := IntWalk.u8_in _ (by omega)
    have hm1 : IntKind.i64.wrap (((m + 1 : Nat) : Int) - 1) = (m : Int) := by rw [IntKind.wrap_i64]; omega
    have heI8 : (e : Int) ≤ 8 := by omega
    rw [hm] at hc0
    clear hset9 hfar hbl hown hz htext hold hlen2 hlt hr
    go_enter Try.func31, Try.ntmps31
    go_wp2_with fail
    go_region
    all_goals
      clear hc9 hor hm1
      go_wp2
      go_end0
      exact ⟨rfl, hfin.out⟩

end Go.Proofs.Ythceefhnmjjddaa
