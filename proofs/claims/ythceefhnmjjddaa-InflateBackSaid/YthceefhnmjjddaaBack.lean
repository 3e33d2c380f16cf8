/-
  'cordonlaw39.InflateBack' returns true whatever the bytes; what was there stays as it was.
-/
import Derived.Test.YthceefhnmjjddaaPackFixed
namespace Go.Proofs.Ythceefhnmjjddaa
open Go.RowKit

/-- What is packed: a text that is read again, whatever stands behind. -/
def PackedAt (w : World) (l r : List UInt8) (v : Value) : Prop := ∃ T A c I, v = .slice A (T : List UInt8).length c ∧ BytesAt w A T ∧ inflateS (T ++ r) = .ok (l, I) ∧ (I + 7) / 8 = T.length ∧ T.length ≤ 30000
theorem packed_stored {w : World} {base : Nat} {v : Value} {l : List UInt8} (r : List UInt8) (h : w.ownsRow base 5 1 v (packS l).length (bytesV (packS l))) (hl : l.length ≤ 2000) : PackedAt w l r v := by
  obtain ⟨A, c, hv, hB, _⟩ := BytesAt.of_own h
  have h2 := (pack_read l r).trans (if_pos (by omega))
  have h3 := packS_len l
  exact ⟨packS l, A, c, _, hv, hB, h2, by omega, by omega⟩
theorem packed_fixed {w : World} {base : Nat} {v : Value} {l : List UInt8} (r : List UInt8) (h : w.ownsRow base 5 1 v (textOf (fixBits l)).length (bytesV (textOf (fixBits l)))) (hl : l.length ≤ 2000) : PackedAt w l r v := by
  obtain ⟨A, c, hv, hB, _⟩ := BytesAt.of_own h
  have h2 := fix_read l r (by omega)
  have h3 := textOf_length (fixBits l)
  have h4 := fixBits_len l
  have h5 := byteBits_len l
  exact ⟨textOf (fixBits l), A, c, _, hv, hB, h2, h3.symm, by omega⟩
theorem PackedAt.below {w w' : World} {l r : List UInt8} {v : Value} (h : PackedAt w l r v) (hb : Below w.heap.size w w') : PackedAt w' l r v := by
  obtain ⟨T, A, c, I, h1, h2, h3⟩ := h
  exact ⟨T, A, c, I, h1, h2.below hb, h3⟩

theorem packed_len (l : List UInt8) (h : l.length ≤ 2000) : (textOf (fixBits l)).length ≤ 65536 := by
  have h3 := textOf_length (fixBits l)
  have h4 := fixBits_len l
  have h5 := byteBits_len l
  omega

set_option maxHeartbeats 4000000 in
set_option maxRecDepth 100000 in
theorem back_any (A0 : Option Addr) (l0 : List UInt8) (n0 c0 : Nat) (A1 : Option Addr) (l1 : List UInt8) (n1 c1 : Nat) (w : World) (h0 : BytesAt w A0 l0) (hn0 : n0 = l0.length) (hc0 : n0 ≤ c0) (hz0 : A0 = none → c0 = 0) (hm0 : n0 ≤ maxLen) (h1 : BytesAt w A1 l1) (hn1 : n1 = l1.length) (hm1 : n1 ≤ maxLen) :
    Calls Try.prog 7 #[.slice A0 n0 c0, .slice A1 n1 c1] w fun e w' => e = .returned (.bool true) ∧ Below w.heap.size w w' := by
  unfold maxLen at hm0 hm1
  obtain ⟨i0, hi, hy0, hy1, hy2⟩ := info_parts info5
  by_cases hl0 : 2000 < n0
  · have hl0' : (2000 : Int) < (n0 : Int) := by omega
    go_enter Try.func7, Try.ntmps7
    go_wp2_with fail
    refine (lives_any _).mono ?_
    rintro e w1 ⟨rfl, hb1⟩
    go_wp2_with fail
    refine (lives_any _).mono ?_
    rintro e w2 ⟨rfl, hb2⟩
    go_wp2
    go_ret
    exact ⟨rfl, hb1.trans (hb2.mono hb1.size)⟩
  · by_cases hl1 : 50 < n1
    · have hl0' : (n0 : Int) ≤ 2000 := by omega
      have hl1' : (50 : Int) < (n1 : Int) := by omega
      go_enter Try.func7, Try.ntmps7
      go_wp2_with fail
      refine (lives_any _).mono ?_
      rintro e w1 ⟨rfl, hb1⟩
      go_wp2_with fail
      refine (lives_any _).mono ?_
      rintro e w2 ⟨rfl, hb2⟩
      go_wp2
      go_ret
      exact ⟨rfl, hb1.trans (hb2.mono hb1.size)⟩
    · subst hn0 hn1
      have hl0' : (l0.length : Int) ≤ 2000 := by omega
      have hl1' : (l1.length : Int) ≤ 50 := by omega
      have hd0 : decide ((2000 : Int) < (l0.length : Int)) = false := by simp; omega
      have hd1 : decide ((50 : Int) < (l1.length : Int)) = false := by simp; omega
      have hl0n : l0.length ≤ 2000 := by omega
      have hl1n : l1.length ≤ 50 := by omega
      have HZ0 := Lib.hid hz0
      have HC0 := Lib.hid hc0
      clear hz0 hc0
      go_enter Try.func7, Try.ntmps7
      go_wp2_with fail
      refine (lives_any _).mono ?_
      rintro e w1 ⟨rfl, hb1⟩
      have h01 := h0.below hb1
      have h11 := h1.below hb1
      clear h0 h1
      go_wp2_with fail
      refine (stored_pack_n A0 l0 _ c0 _ h01 rfl HZ0.out HC0.out (by omega)).mono ?_
      rintro e w2 ⟨v2, rfl, hown2, hb2⟩
      have h02 := h01.below hb2
      have h12 := h11.below hb2
      have hp2 := packed_stored l1 hown2 hl0n
      obtain ⟨A2, c2, hv2, _, _⟩ := BytesAt.of_own hown2
      clear hown2 h01 h11
      go_wp2_with fail
      refine (packfixed_any A0 l0 _ c0 _ h02 rfl (by omega)).mono ?_
      rintro e w3 ⟨v3, rfl, hown3, hb3⟩
      have h03 := h02.below hb3
      have h13 := h12.below hb3
      have hp3 := packed_fixed l1 hown3 hl0n
      obtain ⟨A3, c3, hv3, _, _⟩ := BytesAt.of_own hown3
      have hbw := (hb1.trans (hb2.mono hb1.size)).trans (hb3.mono (Nat.le_trans hb1.size hb2.size))
      replace hp2 := hp2.below hb3
      have hrow : Blk (w3.alloc (.cells #[v2, v3] 22)) w3.heap.size 22 #[v2, v3] := Blk.new w3 22 _
      have hb4 := (Below.refl _ w3).alloc (Nat.le_refl _) (.cells #[v2, v3] 22)
      have hpk : ∀ j, j < 2 → ∃ T A c I, (w3.alloc (.cells #[v2, v3] 22)).cell? ⟨w3.heap.size, j, none⟩ = some (.slice A (T : List UInt8).length c) ∧ BytesAt (w3.alloc (.cells #[v2, v3] 22)) A T ∧ inflateS (T ++ l1) = .ok (l0, I) ∧ (I + 7) / 8 = T.length ∧ T.length ≤ 30000 := by
        intro j hj
        rcases j with _ | _ | j
        · obtain ⟨T, A, c, I, e, k1, k2⟩ := hp2.below hb4
          exact ⟨T, A, c, I, by rw [← e]; exact hrow.cell 0, k1, k2⟩
        · obtain ⟨T, A, c, I, e, k1, k2⟩ := hp3.below hb4
          exact ⟨T, A, c, I, by rw [← e]; exact hrow.cell 1, k1, k2⟩
        · omega
      have h04 := h03.below hb4
      have h14 := h13.below hb4
      have hw4 := hbw.trans (hb4.mono hbw.size)
      subst hv2 hv3
      obtain ⟨w4, hw4e⟩ : ∃ x, x = w3.alloc (.cells #[.slice A2 (packS l0).length c2, .slice A3 (textOf (fixBits l0)).length c3] 22) := ⟨_, rfl⟩
      have hz34 : w3.heap.size < w4.heap.size := by rw [hw4e]; simp
      rw [← hw4e] at hpk h04 h14 hw4
      have HPK := Lib.hid hpk
      have HW4 := Lib.hid hw4e
      clear hpk hp2 hp3 hown3 h02 h12 h03 h13 hrow hb4 hb1 hb2 hb3 hbw
      go_wp2_with fail
      rw [← HW4.out]
      go_loopw [32] (fun i wr => ∃ j : Nat, i = .int .i64 (j : Nat) ∧ j ≤ 2 ∧ Below w4.heap.size w4 wr) (fun i _ => 2 - (intOf i).toNat)
      case atStart => exact ⟨0, rfl, by omega, Below.refl _ _⟩
      case round =>
        obtain ⟨j, rfl, hj, hbr⟩ := hrel
        by_cases hlt : j < 2
        · obtain ⟨T, A, c, I, hcell, hT, hinfl, hI, hTl⟩ := HPK.out j hlt
          replace hcell := (hbr.cell (p := ⟨w3.heap.size, j, none⟩) hz34).trans hcell
          have hTr := hT.below hbr
          have h1r := h14.below hbr
          have h0r := h04.below hbr
          have HI := Lib.hid hI
          have HINF := Lib.hid hinfl
          have hb1a := (Below.refl _ wr).alloc (Nat.le_refl _) (.cells #[] 5)
          have hsrc1 := (hTr.below hb1a).src
          have h1s := Lib.hid h1r
          have hone1 := Lib.hid (bytesV_one T)
          have hlen1 := Lib.hid (show (bytesV T).length = T.length * 1 by rw [bytesV_length]; omega)
          have hone2 := Lib.hid (bytesV_one l1)
          have hlen2 := Lib.hid (show (bytesV l1).length = l1.length * 1 by rw [bytesV_length]; omega)
          have h63a := Lib.hid (le63_ (show 0 + T.length ≤ 3000000 by omega))
          have h63b := Lib.hid (le63_ (show T.length + l1.length ≤ 3000000 by omega))
          have hownE : (wr.alloc (.cells #[] 5)).ownsRow wr.heap.size 5 1 (.slice (some ⟨wr.heap.size, 0, none⟩) 0 0) 0 [] := ownsRow_empty (heap_alloc_new wr _) (Nat.le_refl _)
          clear hI hinfl hT h1r
          have hwr := Lib.hid (hw4.trans (hbr.mono hw4.size))
          have HBR := Lib.hid hbr
          clear hbr
          go_wp2_with (first | (at_builtin; (refine wpList_append_src _ rfl (.tmp 37) (.tmp 38) 22 rfl wr.heap.size 5 i0 (.int .u8 0) 1 1 Try.underlying22 hi hy0 hy1 hy2 rfl (by decide) (.slice (some ⟨wr.heap.size, 0, none⟩) 0 0) 0 [] rfl hownE A T.length c (bytesV T) rfl hlen1.out hsrc1 hone1.out h63a.out.1 h63a.out.2 (by simp) ?_); intro v5 w5 hown5 hgrow5; have hown5' := copy_own hown5 rfl; have hb5 : Below wr.heap.size wr w5 := hb1a.grown hgrow5 (by simp) (fun k hk => (hownE.lt k hk).1); obtain ⟨A5, c5, rfl⟩ := own_slice hown5'; replace hown5' := Lib.hid hown5'; have hsrc2 := Lib.hid (h1s.out.below hb5).src; clear hownE hgrow5 hsrc1 hown5) | (at_builtin; go_loud (refine wpList_append_src _ rfl (.tmp 39) (.tmp 40) 22 rfl wr.heap.size 5 i0 (.int .u8 0) 1 1 Try.underlying22 hi hy0 hy1 hy2 rfl (by decide) (.slice A5 T.length c5) T.length (bytesV T) rfl hown5'.out A1 l1.length c1 (bytesV l1) rfl hlen2.out hsrc2.out hone2.out h63b.out.1 h63b.out.2 hb5.size ?_; intro v6 w6 hown6 hgrow6)))
          have hown6' : w6.ownsRow wr.heap.size 5 1 v6 (T ++ l1).length (bytesV (T ++ l1)) := by rw [List.length_append, bytesV_append]; exact hown6
          have hb6 : Below wr.heap.size wr w6 := hb5.grown hgrow6 hb5.size (fun k hk => (hown5'.out.lt k hk).1)
          clear hown6 hgrow6
          refine (inflate_own hown6' (by rw [List.length_append]; omega)).mono ?_
          intro e w7 hinf
          rw [HINF.out] at hinf
          obtain ⟨A7, c7, rfl, hB7, hb7⟩ := inflated_yes rfl hinf
          rw [HI.out]
          have hb67 := hb6.trans (hb7.mono hb6.size)
          have hs7 := run_str hB7 c7
          have hs0 := run_str (h0r.below hb67) c0
          have hfin := Lib.hid (HBR.out.trans (hb67.mono HBR.out.size))
          clear hinf hown6' hB7 h0r hTr hb7 hb6
          go_wp2
          go_roundw
          case rel => exact ⟨j + 1, by go_num, by omega, hfin.out⟩
          case measure => simp [intOf]; omega
        · obtain rfl : j = 2 := by omega
          have h0r := h04.below hbr
          by_cases h200 : 200 < l0.length
          · have h2I : (200 : Int) < (l0.length : Int) := by omega
            have hcc := HC0.out
            have hccI : (200 : Int) ≤ (c0 : Int) := by omega
            obtain ⟨b, o, rfl, hblt, hcl⟩ := h0r.resolve_left (fun e => by subst e; simp at h200)
            have hlt : (l0.take 200).length = 200 := by rw [List.length_take]; omega
            have h0t := BytesAt.take h0r 200
            have HLT := Lib.hid hlt
            clear hcl hlt h0r
            go_wp2_with fail
            refine (packfixed_any (some ⟨b, o, none⟩) (l0.take 200) _ c0 _ h0t HLT.out.symm (by omega)).mono ?_
            rintro e w5 ⟨v5, rfl, hown5, hb5⟩
            have hlen5 := packed_len (l0.take 200) (by rw [HLT.out]; omega)
            obtain ⟨A5, c5, hv5, hB5, _⟩ := BytesAt.of_own hown5
            have hr := fix_read (l0.take 200) [] (by rw [HLT.out]; omega)
            rw [List.append_nil] at hr
            subst hv5
            have HR := Lib.hid hr
            have HL5 := Lib.hid hlen5
            have h05 := BytesAt.below h0t hb5
            clear hown5 hr hlen5
            go_wp2_with fail
            refine (rinflate_n A5 _ c5 _ _ hB5 rfl HL5.out).mono ?_
            rw [HR.out]
            intro e w6 hinf
            obtain ⟨A6, c6, rfl, hB6, hb6⟩ := inflated_yes rfl hinf
            obtain ⟨q, hq⟩ : ∃ q, ((fixBits (l0.take 200)).length + 7) / 8 = q := ⟨_, rfl⟩
            rw [hq]
            have hs6 := run_str (w := w6.drew) (hB6.drewN 1) c6
            have hs0 := run_str (w := w6.drew) ((h05.below hb6).drewN 1) c0
            rw [HLT.out] at hs0 hs6 ⊢
            have hfin := Lib.hid ((hw4.trans (hbr.mono hw4.size)).trans ((hb5.trans (hb6.mono hb5.size)).mono (Nat.le_trans hw4.size hbr.size)))
            clear hinf hB6 hB5 h05 hq hbr hw4 h14 h04
            go_wp2_with fail
            go_region
            all_goals
              go_wp2
              go_ret
              exact ⟨rfl, below_drewN hfin.out 1⟩

          · have h2I : (l0.length : Int) ≤ 200 := by omega
            have hcc := HC0.out
            have hccI : (l0.length : Int) ≤ (c0 : Int) := by omega
            rcases A0 with _ | a
            · obtain rfl : c0 = 0 := HZ0.out rfl
              obtain rfl : l0 = [] := List.eq_nil_of_length_eq_zero (by omega)
              go_wp2_with fail
              refine (packfixed_any none [] _ 0 _ h0r rfl (by omega)).mono ?_
              rintro e w5 ⟨v5, rfl, hown5, hb5⟩
              have hlen5 := packed_len [] (by simp)
              obtain ⟨A5, c5, hv5, hB5, _⟩ := BytesAt.of_own hown5
              have hr := fix_read [] [] (by simp)
              rw [List.append_nil] at hr
              subst hv5
              have HR := Lib.hid hr
              have HL5 := Lib.hid hlen5
              have h05 := BytesAt.below h0r hb5
              clear hown5 hr hlen5
              go_wp2_with fail
              refine (rinflate_n A5 _ c5 _ _ hB5 rfl HL5.out).mono ?_
              rw [HR.out]
              intro e w6 hinf
              obtain ⟨A6, c6, rfl, hB6, hb6⟩ := inflated_yes rfl hinf
              obtain ⟨q, hq⟩ : ∃ q, ((fixBits []).length + 7) / 8 = q := ⟨_, rfl⟩
              rw [hq]
              have hs6 := run_str (w := w6.drew) (hB6.drewN 1) c6
              have hs0 := run_str (w := w6.drew) ((h05.below hb6).drewN 1) 0
              rw [List.length_nil] at hs0 hs6
              have hfin := Lib.hid ((hw4.trans (hbr.mono hw4.size)).trans ((hb5.trans (hb6.mono hb5.size)).mono (Nat.le_trans hw4.size hbr.size)))
              clear hinf hB6 hB5 h05 hq hbr hw4 h14 h04
              go_wp2_with fail
              go_region
              all_goals
                go_wp2
                go_ret
                exact ⟨rfl, below_drewN hfin.out 1⟩

            · skip
              go_wp2_with fail
              refine (packfixed_any (some a) l0 _ c0 _ h0r rfl (by omega)).mono ?_
              rintro e w5 ⟨v5, rfl, hown5, hb5⟩
              have hlen5 := packed_len l0 (by omega)
              obtain ⟨A5, c5, hv5, hB5, _⟩ := BytesAt.of_own hown5
              have hr := fix_read l0 [] (by omega)
              rw [List.append_nil] at hr
              subst hv5
              have HR := Lib.hid hr
              have HL5 := Lib.hid hlen5
              have h05 := BytesAt.below h0r hb5
              clear hown5 hr hlen5
              go_wp2_with fail
              refine (rinflate_n A5 _ c5 _ _ hB5 rfl HL5.out).mono ?_
              rw [HR.out]
              intro e w6 hinf
              obtain ⟨A6, c6, rfl, hB6, hb6⟩ := inflated_yes rfl hinf
              obtain ⟨q, hq⟩ : ∃ q, ((fixBits l0).length + 7) / 8 = q := ⟨_, rfl⟩
              rw [hq]
              have hs6 := run_str (w := w6.drew) (hB6.drewN 1) c6
              have hs0 := run_str (w := w6.drew) ((h05.below hb6).drewN 1) c0
              skip
              have hfin := Lib.hid ((hw4.trans (hbr.mono hw4.size)).trans ((hb5.trans (hb6.mono hb5.size)).mono (Nat.le_trans hw4.size hbr.size)))
              clear hinf hB6 hB5 h05 hq hbr hw4 h14 h04
              go_wp2_with fail
              go_region
              all_goals
                go_wp2
                go_ret
                exact ⟨rfl, below_drewN hfin.out 1⟩

end Go.Proofs.Ythceefhnmjjddaa
