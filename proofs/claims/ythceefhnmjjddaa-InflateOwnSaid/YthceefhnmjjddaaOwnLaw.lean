/-
  'cordonlaw39.InflateOwn' returns true whatever the lengths and the bytes behind; what was there stays as it was.
-/
import Derived.Test.YthceefhnmjjddaaPut
namespace Go.Proofs.Ythceefhnmjjddaa
open Go.RowKit

/-- A slice of so many numbers, whatever they are. -/
def IntsAt (w : World) (A : Option Addr) (n : Nat) : Prop := n = 0 ∨ ∃ b o, A = some ⟨b, o, none⟩ ∧ b < w.heap.size ∧ ∀ i, i < n → ∃ z : Int, w.cell? ⟨b, o + i, none⟩ = some (.int .i64 z)
theorem IntsAt.below {w w' : World} {A : Option Addr} {n : Nat} (h : IntsAt w A n) (hb : Below w.heap.size w w') : IntsAt w' A n := by
  rcases h with h | ⟨b, o, e, hlt, hc⟩
  · exact .inl h
  · exact .inr ⟨b, o, e, Nat.lt_of_lt_of_le hlt hb.size, fun i hi => by obtain ⟨z, hz⟩ := hc i hi; exact ⟨z, (hb.cell (p := ⟨b, o + i, none⟩) hlt).trans hz⟩⟩
theorem put_k (B gb base n x : Nat) (size : Nat) (k xi : Int) (w0 w : World) (h : Bitted B gb base n w0 w) (hB : B ≤ base ∧ B ≤ gb) (hk : k = (size : Nat)) (hxi : xi = (x : Nat)) (hx : x < 32) (hs : size ≤ 8) (hn : n ≤ 10000) :
    Calls Try.prog 11 #[.int .i64 xi, .int .i64 k, .pointer (some ⟨gb, 0, none⟩)] w fun e w' => e = .returned (.tuple #[]) ∧ Bitted B gb base (n + size) w0 w' := by
  subst hxi; exact put_any B gb base n x size k w0 w h hB hk hx hs hn

theorem own_store {w : World} {base : Nat} {A : Option Addr} {c : Nat} {l : List UInt8} {i : Nat} {x : UInt8} (h : w.ownsRow base 5 1 (.slice A l.length c) l.length (bytesV l)) (hi : i < l.length) : ∃ g, A = some ⟨g, 0, none⟩ ∧ base ≤ g ∧ w.cell? ⟨g, i, none⟩ = some (.int .u8 ((l.getD i 0).toNat : Nat)) ∧ w.frozen? ⟨g, i, none⟩ = false ∧ (w.setCell ⟨g, i, none⟩ (.int .u8 (x.toNat : Nat))).ownsRow base 5 1 (.slice A l.length c) (l.set i x).length (bytesV (l.set i x)) := by
  obtain ⟨g, cap, hv, hc⟩ := own_byte h i hi
  rcases h.2 with ⟨hv2, hn⟩ | ⟨g2, cap2, cur, hv2, hb, hg, hnc, hcm, hcs, htk⟩
  · omega
  · injection hv with h1 h2 h3
    injection hv2 with h4 h5 h6
    subst h1
    injection h4 with h4
    injection h4 with h4
    subst h4 h6
    refine ⟨g, rfl, hb, hc, frozen_of_row w g i _ _ hg, ?_, .inr ⟨g, c, cur.setIfInBounds i (.int .u8 (x.toNat : Nat)), by rw [List.length_set], hb, heap_setCell_same w g i _ 5 _ hg, by rw [List.length_set]; exact hnc, hcm, by simpa using hcs, ?_⟩⟩
    · simp [bytesV]
    · rw [List.length_set, Array.toList_setIfInBounds, List.take_set, htk]
      simp [bytesV, List.map_set]
theorem or_u8 (a : UInt8) (z : Int) : ∃ r : UInt8, bits .or .u8 (a.toNat : Nat) (z % 256) = (r.toNat : Nat) := by
  have h0 : 0 ≤ z % 256 ∧ z % 256 < 256 := by omega
  obtain ⟨y, hy⟩ : ∃ y : Nat, z % 256 = (y : Int) := ⟨(z % 256).toNat, by omega⟩
  have hy2 : y < 256 := by omega
  have ha := a.toNat_lt
  have hor : a.toNat ||| y < 2 ^ 8 := Nat.or_lt_two_pow (by omega) (by omega)
  rw [hy, (bits_nat .u8 8 (by decide) (fun n h₀ h₁ => by rw [IntKind.wrap_u8]; omega) a.toNat y (by omega) (by omega)).2]
  generalize a.toNat ||| y = q at *
  exact ⟨q.toUInt8, by simp; omega⟩
/-- The text so far: so many bits are laid. -/
def Texted (B k : Nat) (w : World) (t : Value) (wx : World) : Prop := ∃ l : List UInt8, wx.ownsRow B 5 1 t l.length (bytesV l) ∧ l.length = (k + 7) / 8 ∧ B ≤ wx.heap.size ∧ Below B w wx

theorem texted_next {B k g i : Nat} {w wx : World} {t : Value} {v : Value} {l : List UInt8} (h : (wx.setCell ⟨g, i, none⟩ v).ownsRow B 5 1 t l.length (bytesV l)) (hl : l.length = (k + 7) / 8) (hbs : B ≤ wx.heap.size) (hb : Below B w wx) (hg : B ≤ g) : Texted B k w t (wx.setCell ⟨g, i, none⟩ v).drew :=
  ⟨l, own_drewN h 1, hl, by simpa [World.setCell] using hbs, (hb.setCell hg _).drew⟩

set_option maxHeartbeats 4000000 in
set_option maxRecDepth 100000 in
theorem ownlaw_any (A0 : Option Addr) (n0 c0 : Nat) (A1 : Option Addr) (l1 : List UInt8) (n1 c1 : Nat) (w : World) (h0 : IntsAt w A0 n0) (hm0 : n0 ≤ maxLen) (h1 : BytesAt w A1 l1) (hn1 : n1 = l1.length) (hm1 : n1 ≤ maxLen) :
    Calls Try.prog 4 #[.slice A0 n0 c0, .slice A1 n1 c1] w fun e w' => e = .returned (.bool true) ∧ Below w.heap.size w w' := by
  unfold maxLen at hm0 hm1
  have hmf : ∀ (fn : Fn) (first cap : Array Value) (w : World), (Instr.makeFunc fn first cap).run Try.prog w = .ok (.func fn first cap) w := fun _ _ _ _ => rfl
  obtain ⟨i0, hi, hz0, hz1, hz2⟩ := info_parts info5
  by_cases hl0 : 40 < n0
  · have hl0' : (40 : Int) < (n0 : Int) := by omega
    go_enter Try.func4, Try.ntmps4
    go_wp2_with fail
    refine (lives_any _).mono ?_
    rintro e w1 ⟨rfl, hb1⟩
    go_wp2_with fail
    refine (lives_any _).mono ?_
    rintro e w2 ⟨rfl, hb2⟩
    go_wp2
    go_ret
    exact ⟨rfl, hb1.trans (hb2.mono hb1.size)⟩
  · by_cases hl1 : 300 < n1
    · have hl0' : (n0 : Int) ≤ 40 := by omega
      have hl1' : (300 : Int) < (n1 : Int) := by omega
      go_enter Try.func4, Try.ntmps4
      go_wp2_with fail
      refine (lives_any _).mono ?_
      rintro e w1 ⟨rfl, hb1⟩
      go_wp2_with fail
      refine (lives_any _).mono ?_
      rintro e w2 ⟨rfl, hb2⟩
      go_wp2
      go_ret
      exact ⟨rfl, hb1.trans (hb2.mono hb1.size)⟩
    · subst hn1
      have hl0' : (n0 : Int) ≤ 40 := by omega
      have hl1' : (l1.length : Int) ≤ 300 := by omega
      have hd0 : decide ((40 : Int) < (n0 : Int)) = false := by simp; omega
      have hd1 : decide ((300 : Int) < (l1.length : Int)) = false := by simp; omega
      have hl1n : l1.length ≤ 300 := by omega
      have hl0n : n0 ≤ 40 := by omega
      go_enter Try.func4, Try.ntmps4
      go_wp2_with fail
      refine (lives_any _).mono ?_
      rintro e w1 ⟨rfl, hb1⟩
      have h01 := h0.below hb1
      have h11 := h1.below hb1
      have hbt : Bitted w1.heap.size (w1.heap.size + 1) w1.heap.size 3 w1 ((w1.alloc (.cells #[.int .u8 1, .int .u8 0, .int .u8 1] 5)).alloc (.cells #[.slice (some ⟨w1.heap.size, 0, none⟩) 3 3] 22)) :=
        ⟨_, [1, 0, 1], Blk.new_ (w := w1.alloc _) _ _ (by simp), ⟨by simp [bytesV], .inr ⟨w1.heap.size, 3, #[.int .u8 1, .int .u8 0, .int .u8 1], rfl, Nat.le_refl _, (Blk.new w1 5 _).alloc _, Nat.le_refl _, by unfold maxLen; omega, rfl, rfl⟩⟩, rfl, by simp; omega, ((Below.refl _ w1).alloc (Nat.le_refl _) _).alloc (by simp) _⟩
      clear h0 h1
      go_wp2_with fail
      refine (put_k w1.heap.size (w1.heap.size + 1) w1.heap.size 3 (l1.length % 30) 5 _ _ w1 _ hbt (by omega) rfl (by omega) (by omega) (by omega) (by omega)).mono ?_
      rintro e w2 ⟨rfl, hbt2⟩
      clear hbt
      go_wp2_with fail
      refine (put_k w1.heap.size (w1.heap.size + 1) w1.heap.size _ (n0 % 30) 5 _ _ w1 _ hbt2 (by omega) rfl (by omega) (by omega) (by omega) (by omega)).mono ?_
      rintro e w3 ⟨rfl, hbt3⟩
      clear hbt2
      go_wp2_with fail
      refine (put_k w1.heap.size (w1.heap.size + 1) w1.heap.size _ 15 4 _ _ w1 _ hbt3 (by omega) rfl (by omega) (by omega) (by omega) (by omega)).mono ?_
      rintro e w4 ⟨rfl, hbt4⟩
      clear hbt3
      go_wp2_with fail
      go_loopw [49] (fun i wr => ∃ j : Nat, i = .int .i64 (j : Nat) ∧ j ≤ 19 ∧ Bitted w1.heap.size (w1.heap.size + 1) w1.heap.size (17 + 3 * j) w1 wr) (fun i _ => 19 - (intOf i).toNat)
      case atStart => exact ⟨0, rfl, by omega, hbt4⟩
      case round =>
        clear hbt4
        obtain ⟨j, rfl, hj, hbt⟩ := hrel
        by_cases hlt : j < 19
        · by_cases hj0 : j < n0
          · have hjI : (j : Int) < (n0 : Int) := by omega
            rcases h01 with h01 | ⟨bb, oo, rfl, hblt, hc⟩
            · omega
            · obtain ⟨z, hz⟩ := hc j hj0
              have hcell : wr.cell? ⟨bb, oo + j, none⟩ = some (.int .i64 z) := by
                obtain ⟨_, _, _, _, _, _, hb5⟩ := hbt
                exact (hb5.cell (p := ⟨bb, oo + j, none⟩) hblt).trans hz
              have HC := Lib.hid hc
              obtain ⟨m, hm, hm8⟩ : ∃ m : Nat, (IntKind.u64.wrap z).tmod 8 = (m : Int) ∧ m < 8 := by
                have h0 : 0 ≤ IntKind.u64.wrap z := by rw [IntKind.wrap_u64]; omega
                refine ⟨((IntKind.u64.wrap z).tmod 8).toNat, ?_, ?_⟩
                · rw [Int.tmod_eq_emod_of_nonneg h0]; omega
                · rw [Int.tmod_eq_emod_of_nonneg h0]; omega
              have hmI : (m : Int) < 8 := by omega
              clear hc hz
              go_wp2_with fail
              refine (put_k w1.heap.size (w1.heap.size + 1) w1.heap.size _ m 3 _ _ w1 _ hbt (by omega) rfl (by first | rfl | go_num) (by omega) (by omega) (by omega)).mono ?_
              rintro e w5 ⟨rfl, hbt5⟩
              go_wp2
              go_roundw
              case rel => exact ⟨j + 1, by go_num, by omega, hbt5⟩
              case measure => simp [intOf]; omega
          · have hjI : ¬ (j : Int) < (n0 : Int) := by omega
            go_wp2_with fail
            refine (put_k w1.heap.size (w1.heap.size + 1) w1.heap.size _ 0 3 _ _ w1 _ hbt (by omega) rfl rfl (by omega) (by omega) (by omega)).mono ?_
            rintro e w5 ⟨rfl, hbt5⟩
            go_wp2
            go_roundw
            case rel => exact ⟨j + 1, by go_num, by omega, hbt5⟩
            case measure => simp [intOf]; omega
        · obtain rfl : j = 19 := by omega
          obtain ⟨vb, lb, hblb, hownb, hlb, hbsb, hbelb⟩ := hbt
          obtain ⟨Ab, cb, hvb, hBb, hAb⟩ := BytesAt.of_own hownb
          subst hvb
          have hcb := hblb.cell 0
          simp at hcb
          replace hlb : lb.length = 74 := hlb
          have HLB := Lib.hid hlb
          go_wp2_with fail
          obtain ⟨wo, rfl⟩ : ∃ wo : World, wo = wr := ⟨_, rfl⟩
          go_loopw [9, 69] (fun t i wx => ∃ k : Nat, i = .int .i64 (k : Nat) ∧ k ≤ 74 ∧ Texted wo.heap.size k wo t wx) (fun _ i _ => 74 - (intOf i).toNat)
          case atStart => exact ⟨0, rfl, by omega, [], World.ownsRow_nil _ _ _ _, rfl, Nat.le_refl _, Below.refl _ _⟩
          case round =>
            obtain ⟨k, rfl, hk, hte⟩ := hrel
            by_cases hkl : k < 74
            · obtain ⟨l9, hown9, hl9, hbs9, hbel9⟩ := hte
              rcases hBb with hBb0 | ⟨b7, o7, rfl, hb7, hc7⟩
              · have := HLB.out
                rw [hBb0] at this
                simp at this
              · have hcell := (hbel9.cell (p := ⟨b7, o7 + k, none⟩) hb7).trans (hc7 k (by have := HLB.out; omega))
                have HC7 := Lib.hid hc7
                obtain ⟨y, hy⟩ : ∃ y, lb.getD k 0 = y := ⟨_, rfl⟩
                rw [hy] at hcell
                clear hy hc7
                obtain ⟨e, he⟩ : ∃ e, k % 8 = e := ⟨_, rfl⟩
                have heI : (k : Int) % 8 = (e : Int) := by omega
                have he8 : e < 8 := by omega
                have heI8 : (e : Int) ≤ 8 := by omega
                by_cases hz : e = 0
                · have hzb : ((e : Int) == 0) = true := by simp; omega
                  have HZ := Lib.hid hz
                  clear hz
                  obtain ⟨A8, c8, rfl⟩ := own_slice hown9
                  have hone := Lib.hid (one_u8 0)
                  have h63 := Lib.hid (le63_ (show l9.length + 1 ≤ 3000000 by omega))
                  have hown1 := hown9.alloc (.cells #[.int .u8 0] 5)
                  have HL8 := Lib.hid hl9
                  clear hl9
                  have hsrc := cell_src wr (.int .u8 0) 5
                  go_wp2_with (at_builtin; go_loud (refine wpList_append_src _ rfl (.tmp 77) (.tmp 78) 22 rfl wo.heap.size 5 i0 (.int .u8 0) 1 1 Try.underlying22 hi hz0 hz1 hz2 rfl (by decide) (.slice A8 l9.length c8) l9.length (bytesV l9) rfl hown1 (some ⟨wr.heap.size, 0, none⟩) 1 1 [.int .u8 0] rfl rfl hsrc hone.out h63.out.1 h63.out.2 (by simp; omega) ?_; intro v' w9 hown9' hgrow9))
                  have hown10 : w9.ownsRow wo.heap.size 5 1 v' (l9 ++ [0]).length (bytesV (l9 ++ [0])) := by rw [List.length_append, bytesV_append]; exact hown9'
                  have hl10 : (l9 ++ [0]).length = (k + 1 + 7) / 8 := by rw [List.length_append, HL8.out]; show (k + 7) / 8 + 1 = _; have := HZ.out; omega
                  have hbel10 : Below wo.heap.size wo w9 := (hbel9.alloc hbs9 _).grown hgrow9 (by simp; omega) (fun k hk => (hown1.lt k hk).1)
                  have hbs10 := hbel10.size
                  generalize l9 ++ [0] = l10 at *
                  clear hown9' hgrow9 hown1 hsrc
                  have hcell10 := (hbel10.cell (p := ⟨b7, o7 + k, none⟩) hb7)
                  clear hcell10
                  obtain ⟨A9, c9, rfl⟩ := own_slice hown10
                  have hm1 : 0 < l10.length := by omega
                  obtain ⟨r, hr⟩ := or_u8 (l10.getD (l10.length - 1) 0) ((y.toNat : Int) * 2 ^ e)
                  obtain ⟨g9, rfl, hg9, hc9, hf9, hset9⟩ := own_store (x := r) hown10 (show l10.length - 1 < l10.length by omega)
                  generalize l10.getD (l10.length - 1) 0 = old at *
                  have hwr1 : IntKind.i64.wrap ((l10.length : Int) - 1) = (l10.length : Int) - 1 := IntWalk.i64_in _ (by omega)
                  have hi0 : (0 : Int) ≤ (l10.length : Int) - 1 := by omega
                  have hi1 : (1 : Int) ≤ (l10.length : Int) := by omega
                  have hi2 : ((l10.length : Int) - 1).toNat = l10.length - 1 := by omega
                  have hi3 : (l10.length : Int) - 1 < (l10.length : Int) := by omega
                  have hfin := texted_next (k := k + 1) hset9 (by rw [List.length_set]; exact hl10) hbs10 hbel10 hg9
                  have HFIN := Lib.hid hfin
                  clear hset9 hl10 hown10 hfin
                  go_region
                  all_goals
                    clear hwr1 hi2 hr hc9 hf9
                    go_wp2
                    go_roundw
                    case rel => (first | exact ⟨k + 1, by go_num, by omega, HFIN.out⟩ | ((repeat apply Exists.intro); exact ⟨⟨k + 1, by go_num, by omega, HFIN.out⟩, rfl⟩))
                    case measure => simp [intOf]; omega
                · have hzb : ((e : Int) == 0) = false := by simp; omega
                  replace hl9 : l9.length = (k + 1 + 7) / 8 := by omega
                  obtain ⟨A9, c9, rfl⟩ := own_slice hown9
                  have hm1 : 0 < l9.length := by omega
                  obtain ⟨r, hr⟩ := or_u8 (l9.getD (l9.length - 1) 0) ((y.toNat : Int) * 2 ^ e)
                  obtain ⟨g9, rfl, hg9, hc9, hf9, hset9⟩ := own_store (x := r) hown9 (show l9.length - 1 < l9.length by omega)
                  generalize l9.getD (l9.length - 1) 0 = old at *
                  have hwr1 : IntKind.i64.wrap ((l9.length : Int) - 1) = (l9.length : Int) - 1 := IntWalk.i64_in _ (by omega)
                  have hi0 : (0 : Int) ≤ (l9.length : Int) - 1 := by omega
                  have hi1 : (1 : Int) ≤ (l9.length : Int) := by omega
                  have hi2 : ((l9.length : Int) - 1).toNat = l9.length - 1 := by omega
                  have hi3 : (l9.length : Int) - 1 < (l9.length : Int) := by omega
                  have hfin := texted_next (k := k + 1) hset9 (by rw [List.length_set]; exact hl9) hbs9 hbel9 hg9
                  have HFIN := Lib.hid hfin
                  clear hset9 hl9 hown9 hfin
                  go_wp2_with fail
                  go_region
                  all_goals
                    clear hwr1 hi2 hr hc9 hf9
                    go_wp2
                    go_roundw
                    case rel => (first | exact ⟨k + 1, by go_num, by omega, HFIN.out⟩ | ((repeat apply Exists.intro); exact ⟨⟨k + 1, by go_num, by omega, HFIN.out⟩, rfl⟩))
                    case measure => simp [intOf]; omega
            · obtain rfl : k = 74 := by omega
              obtain ⟨l9, hown9, hl9, hbs9, hbel9⟩ := hte
              replace hl9 : l9.length = 10 := hl9
              obtain ⟨A9, c9, rfl⟩ := own_slice hown9
              have hb1o : Below w1.heap.size w1 wr := hbelb.trans (hbel9.mono hbsb)
              have hB1 := h11.below hb1o
              have hsrc := hB1.src
              have hone := Lib.hid (bytesV_one l1)
              have hlen := Lib.hid (show (bytesV l1).length = l1.length * 1 by rw [bytesV_length]; omega)
              have h63 := Lib.hid (le63_ (show l9.length + l1.length ≤ 3000000 by omega))
              have HL9 := Lib.hid hl9
              clear hl9 hcb
              go_wp2_with (at_builtin; go_loud (refine wpList_append_src _ rfl (.tmp 93) (.tmp 94) 22 rfl wo.heap.size 5 i0 (.int .u8 0) 1 1 Try.underlying22 hi hz0 hz1 hz2 rfl (by decide) (.slice A9 l9.length c9) l9.length (bytesV l9) rfl hown9 A1 l1.length c1 (bytesV l1) rfl hlen.out hsrc hone.out h63.out.1 h63.out.2 hbs9 ?_; intro v3 w3 hown3 hgrow3))
              have hownT : w3.ownsRow wo.heap.size 5 1 v3 (l9 ++ l1).length (bytesV (l9 ++ l1)) := by rw [List.length_append, bytesV_append]; exact hown3
              have hlT : (l9 ++ l1).length ≤ 400 := by rw [List.length_append]; have := HL9.out; omega
              have hbel3 : Below w.heap.size w w3 := hb1.trans ((hb1o.grown hgrow3 (by have := hb1o.size; omega) (fun k hk => by have := (hown9.lt k hk).1; omega)).mono hb1.size)
              generalize l9 ++ l1 = TT at *
              obtain ⟨A3, c3, hv3, hB3, _⟩ := BytesAt.of_own hownT
              clear hown3 hgrow3 hsrc
              subst hv3
              refine (inflate_own hownT (by omega)).mono ?_
              intro e w4 hinf
              have hiff : Hid (∃ o, inflateS TT = o) := Lib.hid ⟨_, rfl⟩
              obtain ⟨o, ho⟩ := hiff.out
              rw [ho] at hinf
              have HOO := Lib.hid ho
              clear ho hiff
              rcases o with k | ⟨out, I⟩
              · obtain ⟨rfl, hb4⟩ := inflated_nil rfl hinf
                have hB4 := hB3.below hb4
                have hb4' := hbel3.trans (hb4.mono hbel3.size)
                clear hinf hB3 hownT hb4
                go_wp2_with fail
                refine (rinflate_n A3 TT.length c3 TT _ hB4 rfl (by omega)).mono ?_
                rw [HOO.out]
                intro e w5 hinf
                obtain ⟨rfl, hb5⟩ := inflated_nil rfl hinf
                have hn5 := str_nil w5
                clear hinf
                go_wp2
                go_ret
                exact ⟨rfl, hb4'.trans (hb5.mono hb4'.size)⟩
              · obtain ⟨A4, c4, rfl, hC4, hb4⟩ := inflated_yes rfl hinf
                have hB4 := hB3.below hb4
                have hb4' := hbel3.trans (hb4.mono hbel3.size)
                obtain ⟨m, hme⟩ : ∃ m, (I + 7) / 8 = m := ⟨_, rfl⟩
                rw [hme]
                have HME := Lib.hid hme
                clear hinf hB3 hownT hb4 hme
                go_wp2_with fail
                refine (rinflate_n A3 TT.length c3 TT _ hB4 rfl (by omega)).mono ?_
                rw [HOO.out]
                intro e w5 hinf
                obtain ⟨A5, c5, rfl, hC5, hb5⟩ := inflated_yes rfl hinf
                rw [HME.out]
                have hc0 := run_str (hC4.below hb5) c4
                have hcn := run_str hC5 c5
                clear hinf
                go_wp2
                go_ret
                exact ⟨rfl, hb4'.trans (hb5.mono hb4'.size)⟩

end Go.Proofs.Ythceefhnmjjddaa
