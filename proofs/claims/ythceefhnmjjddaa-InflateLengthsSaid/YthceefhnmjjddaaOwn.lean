/-
  The reader's own, by a contract.
-/
import Derived.Test.YthceefhnmjjddaaOwnParts
namespace Go.Proofs.Ythceefhnmjjddaa
open Go.RowKit

set_option maxHeartbeats 4000000 in
set_option maxRecDepth 100000 in
theorem own_any (b : Nat) (A : Option Addr) (cap : Nat) (T : List UInt8) (I : Nat) (w : World) (h : Alive w b A cap T I) (hT : T.length ≤ 1048576) (hA : ∀ a, A = some a → a.block < w.heap.size) :
    Calls Try.prog 20 #[.pointer (some ⟨b, 0, none⟩)] w (Owned (ownS T I) b A cap T w) := by
  have ho : ownS T I = ownK T ((numS T (some I) 5).1 + 257) ((numS T (numS T (some I) 5).2 5).1 + 1) (codesS T (orderL.take ((numS T (numS T (numS T (some I) 5).2 5).2 4).1 + 4)) (List.replicate 19 0) (numS T (numS T (numS T (some I) 5).2 5).2 4).2) := rfl
  generalize ownS T I = o at *
  have hb0 : b < w.heap.size := by obtain ⟨cs, hb⟩ := h.blk; exact hb.lt
  obtain ⟨i0, hi, hz0, hz1, hz2⟩ := info_parts info3
  have HO := Lib.hid ho
  clear ho
  go_enter Try.func20, Try.ntmps20
  go_wp2_with fail
  have ht0 : Blk ((w.alloc (.cells (tabCells (fun _ => 0) (.slice none 0 0)) 55)).alloc (.cells (tabCells (fun _ => 0) (.slice none 0 0)) 55)) w.heap.size 55 (tabCells (fun _ => 0) (.slice none 0 0)) := (Blk.new w _ _).alloc _
  have ht1 : Blk ((w.alloc (.cells (tabCells (fun _ => 0) (.slice none 0 0)) 55)).alloc (.cells (tabCells (fun _ => 0) (.slice none 0 0)) 55)) (w.heap.size + 1) 55 (tabCells (fun _ => 0) (.slice none 0 0)) := Blk.new_ (w := w.alloc _) _ _ (by simp)
  have ha0 := (h.alloc (.cells (tabCells (fun _ => 0) (.slice none 0 0)) 55)).alloc (.cells (tabCells (fun _ => 0) (.slice none 0 0)) 55)
  have hO0 : Only [b] w ((w.alloc (.cells (tabCells (fun _ => 0) (.slice none 0 0)) 55)).alloc (.cells (tabCells (fun _ => 0) (.slice none 0 0)) 55)) := ((Only.refl [b] w).alloc _).alloc _
  refine (number_any b A cap T (some I) 5 _ _ (by exact ha0) hT rfl (by omega)).mono ?_
  rintro e w1 ⟨rfl, hr1, hO1⟩
  have ht0 := hO1.blk ht0 (by simp; omega)
  have ht1 := hO1.blk ht1 (by simp; omega)
  have hO1 := hO0.trans hO1
  have hl1 := numS_lt T (some I) 5
  clear ha0 hO0
  generalize numS T (some I) 5 = r1 at *
  obtain ⟨v1, s1⟩ := r1
  simp only at hr1 hl1 HO
  go_wp2_with fail
  refine (number_any b A cap T s1 5 _ _ hr1 hT rfl (by omega)).mono ?_
  rintro e w2 ⟨rfl, hr2, hO2⟩
  have ht0 := hO2.blk ht0 (by simp; omega)
  have ht1 := hO2.blk ht1 (by simp; omega)
  have hO2 := hO1.trans hO2
  have hl2 := numS_lt T s1 5
  clear hr1 hO1
  generalize numS T s1 5 = r2 at *
  obtain ⟨v2, s2⟩ := r2
  simp only at hr2 hl2 HO
  go_wp2_with fail
  refine (number_any b A cap T s2 4 _ _ hr2 hT rfl (by omega)).mono ?_
  rintro e w3 ⟨rfl, hr3, hO3⟩
  have ht0 := hO3.blk ht0 (by simp; omega)
  have ht1 := hO3.blk ht1 (by simp; omega)
  have hO3 := hO2.trans hO3
  have hl3 := numS_lt T s2 4
  clear hr2 hO2
  generalize numS T s2 4 = r3 at *
  obtain ⟨v3, s3⟩ := r3
  simp only at hr3 hl3 HO
  replace hl1 : v1 < 32 := hl1
  replace hl2 : v2 < 32 := hl2
  replace hl3 : v3 < 16 := hl3
  go_wp2_with (refine wpList_make_full _ rfl (.const (.int .i64 19)) (.const (.int .i64 19)) 28 rfl 0 3 i0 (.int .i64 0) 1 Try.underlying28 hi hz0 hz1 .i64 .i64 _ _ 19 rfl rfl rfl rfl (by rw [hz2]; omega) (by unfold maxLen; omega) (by omega) ?_; intro w4 hown4 hgrow4)
  have hO4 := hO3.grown hgrow4 (by simp)
  have hrow4 := own_full hown4 (numsV (List.replicate 19 0)) (by simp only [Value.cells, Nat.mul_one]; rw [toList_madeCells_one]; simp [numsV])
  have ht0 := ht0.grown hgrow4 (by simp)
  have ht1 := ht1.grown hgrow4 (by simp)
  have hr4 := hr3.grown hgrow4
  have hcb : w.heap.size + 2 ≤ w3.heap.size := by have := ht1.lt; have := hO3.size; have h2 := Blk.lt ‹Blk w3 (w.heap.size + 1) 55 _›; omega
  clear hown4 hr3 hO3
  refine (order_any _).mono ?_
  rintro e w5 ⟨rfl, hb5⟩
  have hO5 := hO4.trans (Only.of_below hb5)
  have hrow5 := (hb5.block _ (Array.getElem?_eq_some_iff.1 hrow4).1).trans hrow4
  have ht0 := ht0.below hb5 ht0.lt
  have ht1 := ht1.below hb5 ht1.lt
  have hr5 := hr4.below hb5
  have hcb5 : w3.heap.size < w5.heap.size := Nat.lt_of_lt_of_le (Array.getElem?_eq_some_iff.1 hrow4).1 hb5.size
  clear hr4 hO4 hrow4 hgrow4 hb5
  have hall := own_order hO5 hrow5 ht0 ht1 hr5 hcb5
  generalize hw6 : World.setRow (w5.alloc (.cells Z19 78)) w5.heap.size orderA = w6 at hall
  obtain ⟨hO6, hord, hrow6, ht06, ht16, hr6⟩ := hall
  have HW6 := Lib.hid hw6
  have hsl := fun W => slice19 W w5.heap.size v3 hl3
  clear hw6
  go_wp2_with (refine wpList_store_row rfl 78 (.tmp 8) (.tmp 28) rfl w5.heap.size orderA rfl rfl 78 Z19 (heap_alloc_new w5 (.cells Z19 78)) ti78 rfl orderA_one ?_; rw [HW6.out])
  generalize hcs : codesS T (orderL.take (v3 + 4)) (List.replicate 19 0) s3 = fin at HO
  have HCS := Lib.hid hcs
  clear hcs hsl
  go_loopw [32] (fun i wr => CodesRel b A cap T (v3 + 4) w w3.heap.size w5.heap.size fin i wr) (fun i _ => v3 + 4 - (intOf i).toNat)
  case atStart => exact ⟨0, List.replicate 19 0, s3, rfl, by omega, by simp, by simp, HCS.out.symm, hrow6, hord, ht06, ht16, hr6, hO6⟩
  case round =>
    clear hO6 hord hrow6 ht06 ht16 hr6 hr5 hrow5 ht0 ht1 hO5
    obtain ⟨k, codes, st, rfl, hk, hcl, hc15, hfin, hrow, hord, ht0, ht1, hr, hO⟩ := hrel
    have HFIN := Lib.hid hfin
    have HCL := Lib.hid hcl
    have HC15 := Lib.hid hc15
    clear hfin hcl hc15
    by_cases hlt : k < v3 + 4
    · have hck := (hord.cell k).trans (orderA_get k (by omega))
      have hx := orderL_lt k (by omega)
      have hstep := codesS_step (T := T) (cs := orderL.take (v3 + 4)) (codes := codes) (s := st) (k := k) (by rw [List.length_take]; show k < min (v3 + 4) 19; omega)
      have hgd : (orderL.take (v3 + 4)).getD k 0 = orderL.getD k 0 := by simp [List.getD_eq_getElem?_getD, hlt]
      rw [hgd] at hstep
      have HST := Lib.hid hstep
      clear hstep hgd
      generalize orderL.getD k 0 = x at *
      go_wp2_with fail
      refine (number_any b A cap T st 3 _ _ hr hT rfl (by omega)).mono ?_
      rintro e w7 ⟨rfl, hr7, hO7⟩
      have hl7 := numS_lt T st 3
      have hrow7 := (hO7.block _ (Array.getElem?_eq_some_iff.1 hrow).1 (by simp; omega)).trans hrow
      have hord7 := hO7.blk hord (by simp; omega)
      have ht07 := hO7.blk ht0 (by simp; omega)
      have ht17 := hO7.blk ht1 (by simp; omega)
      have hO8 := hO.trans hO7
      generalize numS T st 3 = r7 at *
      obtain ⟨v7, s7⟩ := r7
      simp only at hr7 hl7 HST
      replace hl7 : v7 < 8 := hl7
      have hcell := cell_of_row w7 w3.heap.size x _ _ _ hrow7
      rw [List.getElem?_toArray, List.getElem?_eq_getElem (by rw [numsV_length, HCL.out]; exact hx)] at hcell
      generalize (numsV codes)[x]'_ = old at hcell
      have hfr := frozen_of_row w7 w3.heap.size x _ _ hrow7
      have hset := heap_setCell_same w7 w3.heap.size x _ 3 (.int .i64 (v7 : Nat)) hrow7
      rw [numsV_set] at hset
      clear hrow hord ht0 ht1 hr hO hO7 hrow7
      go_wp2
      go_roundw
      case rel =>
        refine ⟨k + 1, codes.set x v7, s7, by go_num, by omega, by simp [HCL.out], ?_, HFIN.out.trans HST.out, hset, hord7.far (by simp; omega) _, ht07.far (by simp; omega) _, ht17.far (by simp; omega) _, hr7.far (by omega) (fun a ha => by have := hA a ha; omega) _ _, hO8.set (.inr (by omega)) _ _⟩
        intro y hy
        rcases List.mem_or_eq_of_mem_set hy with h | h
        · exact HC15.out y h
        · omega
      case measure => simp [intOf]; omega
    · obtain rfl : k = v3 + 4 := by omega
      have hf2 := HFIN.out
      rw [List.drop_eq_nil_of_le (List.length_take_le _ _)] at hf2
      obtain rfl : fin = (codes, st) := hf2
      have HOK : Hid (o = ownK T (v1 + 257) (v2 + 1) (codes, st)) := HO
      clear HCS HFIN HO hord
      have hnums := nums_row_ hrow
      go_wp2_with fail
      refine (table_at _ _ _ codes _ hnums HCL.out.symm (by rw [HCL.out]; omega) HC15.out).mono ?_
      rintro e w8 ⟨v, rfl, ⟨At, nt, ct, rfl⟩, howt, hb8⟩
      have ht08 := ht0.below hb8 ht0.lt
      have ht18 := ht1.below hb8 ht1.lt
      have hr8 := hr.below hb8
      have hO8 := hO.trans (Only.of_below hb8)
      have HW := Lib.hid howt
      have hz8 := hb8.size
      have hzw := hO.size
      have hzt := ht18.lt
      clear howt ht0 ht1 hr hO hrow hnums hb8
      have hall := own_tab (c := fun n => codes.count n) (v := .slice At nt ct) hO8 ht08 ht18 hr8
      generalize hw9 : World.setRow (w8.alloc (.cells Z17 55)) w8.heap.size (tabCells (fun n => codes.count n) (.slice At nt ct)) = w9 at hall
      obtain ⟨hO9, htab, ht09, ht19, hr9, hb9⟩ := hall
      have HW9 := Lib.hid hw9
      clear hw9 ht08 ht18 hr8 hO8
      cases hR : right codes
      · have hfin : o = none := by rw [HOK.out]; exact ownK_bad hR
        have HFIN := Lib.hid hfin
        obtain ⟨e4, h4, f4, hh⟩ := hr9.e
        clear hfin hR
        go_wp2_with (refine wpList_store_row rfl 55 (.tmp 11) (.tmp 45) rfl w8.heap.size (tabCells (fun n => codes.count n) (.slice At nt ct)) rfl rfl 55 Z17 (heap_alloc_new w8 (.cells Z17 55)) ti55 rfl (tab_one _ rfl) ?_; rw [HW9.out])
        go_loopw [13] (fun l wr => l = .slice none 0 0 ∧ Halt wr b 2 ∧ Only [b] w wr ∧ Blk wr w.heap.size 55 (tabCells (fun _ => 0) (.slice none 0 0)) ∧ Blk wr (w.heap.size + 1) 55 (tabCells (fun _ => 0) (.slice none 0 0))) (fun _ _ => 0)
        case atStart => exact ⟨rfl, hh, hO9.set (.inl (List.mem_singleton.2 rfl)) _ _, ht09.far (by simp; omega) _, ht19.far (by simp; omega) _⟩
        case round =>
          obtain ⟨rfl, hhr, hOr, hx0, hx1⟩ := hrel
          obtain ⟨h4r, f4r⟩ := hhr.e
          go_wp2_with fail
          have hy0 := hx0.far (p := ⟨b, 4, none⟩) (by simp; omega) (.int .i64 2)
          have hy1 := hx1.far (p := ⟨b, 4, none⟩) (by simp; omega) (.int .i64 2)
          refine ret_two (p := 2) (q := 3) (x := 129) (y := 130) rfl rfl (by simp) (by simp) (by decide) (by decide) (by decide) (by decide) (by decide) hy0 hy1 rfl rfl (tab_one _ rfl) (tab_one _ rfl) ?_
          intro a' h2 h3 hd
          go_wp2
          refine bodyPost_ret_by (results_tab2 f20_results h2 h3 (hy0.drewN 1) (hy1.drewN 1)) hd ?_
          exact owned_none HFIN.out ((hOr.set (.inl (List.mem_singleton.2 rfl)) _ _).drewN 1) (hhr.set 2)
      · have HRT := Lib.hid hR
        clear hR
        rcases st with _ | I9
        · have HFIN : Hid (o = none) := HOK.out
          obtain ⟨h4, f4⟩ := Dead.e2 hr9
          go_wp2_with (refine wpList_store_row rfl 55 (.tmp 11) (.tmp 45) rfl w8.heap.size (tabCells (fun n => codes.count n) (.slice At nt ct)) rfl rfl 55 Z17 (heap_alloc_new w8 (.cells Z17 55)) ti55 rfl (tab_one _ rfl) ?_; rw [HW9.out])
          go_loopw [13] (fun l wr => l = .slice none 0 0 ∧ Halt wr b 2 ∧ Only [b] w wr ∧ Blk wr w.heap.size 55 (tabCells (fun _ => 0) (.slice none 0 0)) ∧ Blk wr (w.heap.size + 1) 55 (tabCells (fun _ => 0) (.slice none 0 0))) (fun _ _ => 0)
          case atStart => exact ⟨rfl, Dead.halt hr9, hO9, ht09, ht19⟩
          case round =>
            obtain ⟨rfl, hhr, hOr, hx0, hx1⟩ := hrel
            obtain ⟨h4r, f4r⟩ := hhr.e
            go_wp2_with fail
            have hy0 := hx0.far (p := ⟨b, 4, none⟩) (by simp; omega) (.int .i64 2)
            have hy1 := hx1.far (p := ⟨b, 4, none⟩) (by simp; omega) (.int .i64 2)
            refine ret_two (p := 2) (q := 3) (x := 129) (y := 130) rfl rfl (by simp) (by simp) (by decide) (by decide) (by decide) (by decide) (by decide) hy0 hy1 rfl rfl (tab_one _ rfl) (tab_one _ rfl) ?_
            intro a' h2 h3 hd
            go_wp2
            refine bodyPost_ret_by (results_tab2 f20_results h2 h3 (hy0.drewN 1) (hy1.drewN 1)) hd ?_
            exact owned_none HFIN.out ((hOr.set (.inl (List.mem_singleton.2 rfl)) _ _).drewN 1) (hhr.set 2)
        · have HFIN : Hid (o = tailS T (v1 + 257) (v2 + 1) codes I9) := HOK.out
          obtain ⟨h4, f4⟩ := Alive.e0 hr9
          go_wp2_with (refine wpList_store_row rfl 55 (.tmp 11) (.tmp 45) rfl w8.heap.size (tabCells (fun n => codes.count n) (.slice At nt ct)) rfl rfl 55 Z17 (heap_alloc_new w8 (.cells Z17 55)) ti55 rfl (tab_one _ rfl) ?_; rw [HW9.out])
          have hfin := HFIN.out.trans (tailS_right HRT.out)
          clear HFIN
          obtain ⟨m, hm⟩ : ∃ m, v1 + 257 + (v2 + 1) = m := ⟨_, rfl⟩
          rw [hm] at hfin
          have hm2 : m ≤ 320 := by omega
          have hm3 : 258 ≤ m := by omega
          have HFIN := Lib.hid hfin
          have HMM := Lib.hid hm
          have htn := own_below (HW.out HRT.out) hb9
          obtain ⟨A1, c1, hv1, _, hnm, hfr⟩ := NumsAt.of_own htn
          cases hv1
          have htab9 : TabAt w9 w8.heap.size At ct codes := ⟨htab, hnm⟩
          have hz89 := hb9.size
          clear hfin hm htn htab hnm HW
          go_loopw [13] (fun l wr => LensRel b A cap T codes m (v1 + 257) (v2 + 1) w w9 o l wr) (fun _ wr => leftW b (8 * T.length) wr)
          case atStart => exact ⟨[], World.ownsRow_nil _ _ _ _, hO9, Only.refl _ _, ht09, ht19, by simp, by simp, .inl ⟨I9, m + 1, hr9, by simp, HFIN.out⟩⟩
          case round =>
            clear hr9 ht09 ht19 hO9 h4 f4 HFIN HOK
            obtain ⟨L, hown, hO, hO9, ht0, ht1, hL15, hLm, hcase⟩ := hrel
            obtain ⟨A2, c2, rfl⟩ := own_slice hown
            rcases hcase with ⟨I', f, ha, hf, ho⟩ | ⟨hh, ho⟩
            · obtain ⟨h4, f4⟩ := ha.e0
              by_cases hlt : L.length < m
              · obtain ⟨f, rfl⟩ : ∃ f', f = f' + 1 := ⟨f - 1, by omega⟩
                rw [lensF_step hlt] at ho
                have HJ := Lib.hid ho
                have hmes := ha.left (8 * T.length)
                have HM := Lib.hid hmes
                have HFR := Lib.hid hfr
                clear ho hmes
                have htabr : TabAt wr w8.heap.size At ct codes := htab9.only hO9 (by simp; omega) (fun a h1 => by have := (HFR.out a h1).1; simp; omega)
                have hltI : (L.length : Int) < (v1 : Int) + 257 + ((v2 : Int) + 1) := by have := HMM.out; omega
                have HL15 := Lib.hid hL15
                have hlm : LM b w w9 L (.slice A2 L.length c2) wr := ⟨hown, hO, hO9, ht0, ht1⟩
                have hl2 : L.length ≤ 320 := by omega
                clear hfr hL15 hown hO hO9 ht0 ht1
                go_wp2_with fail
                refine (sign_any b w8.heap.size A At cap ct T codes I' _ ha hT htabr (by omega) (fun a h1 h2 => by have := (HFR.out a h1).1; omega) (by have := HCL.out; omega)).mono ?_
                intro e w10 hsd
                have hbd := @signS_bd T codes I'
                have hbz : b < wr.heap.size := by obtain ⟨cs, hb⟩ := ha.blk; exact hb.lt
                generalize signS T codes I' = o1 at *
                rcases o1 with _ | ⟨s, I1⟩
                · obtain ⟨rfl, hh, hO10⟩ := hsd
                  have HFIN : Hid (o = none) := HJ.out
                  obtain ⟨h4, f4⟩ := hh.e
                  have hmes := hh.left (.inl rfl) (8 * T.length)
                  have HM6 := Lib.hid hmes
                  clear hmes hbd
                  go_wp2
                  go_roundw
                  case rel => exact lens_bad (hlm.only hO10 hb0 (by omega)) HL15.out hLm hh HFIN.out
                  case measure => rw [HM.out, HM6.out]; omega
                · obtain ⟨rfl, ha10, hO10⟩ := hsd
                  obtain ⟨hb1, hb2, hb3⟩ := hbd rfl
                  have hs19 : s < 19 := by have := HCL.out; omega
                  have hlm10 := hlm.only hO10 hb0 (by omega)
                  obtain ⟨h4, f4⟩ := ha10.e0
                  clear ha hO10 hbd htabr hb3 hlm
                  by_cases hs16 : s < 16
                  · have HN : Hid (o = tailK (v1 + 257) (v2 + 1) (lensF T codes m f (L ++ List.replicate 1 s) I1)) := by
                      have h := HJ.out
                      simp only [lensK, if_pos hs16] at h
                      exact h
                    have e16 : ((s : Int) == 16) = false := by simp; omega
                    have e17 : ((s : Int) == 17) = false := by simp; omega
                    have e18 : ((s : Int) == 18) = false := by simp; omega
                    clear HJ
                    go_wp2_with fail
                    have ha11 := ha10.alloc (.cells #[.int .i64 (s : Nat)] 3)
                    have hlm11 := hlm10.alloc (.cells #[.int .i64 (s : Nat)] 3)
                    refine (repeat_k _ s (1) _ _ (w10.heap.size + 1) (by simp) ((Blk.new _ 3 _).cell 0) (by go_num) (by omega) (by omega)).mono ?_
                    rintro e w12 ⟨rfl, hsrc, hbel⟩
                    have ha12 := ha11.keepB hbel
                    have hlm12 := hlm11.below hbel
                    have hz12 := hlm12.o9.size
                    have HOne := Lib.hid (rep_one (1) s)
                    have HLen := Lib.hid (rep_len (1) s)
                    have H63 := Lib.hid (len63 (show L.length + (1) ≤ 1000 by omega))
                    have hown12 := hlm12.own
                    clear hbel ha10 hlm10 ha11 hlm11 h4 f4
                    go_wp2_with (at_builtin; go_loud (refine wpList_append_src _ rfl (.tmp 101) (.tmp 105) 28 rfl w9.heap.size 3 i0 (.int .i64 0) 1 8 Try.underlying28 hi hz0 hz1 hz2 rfl (by decide) (.slice A2 L.length c2) L.length (numsV L) rfl hown12 (some ⟨w10.heap.size + 1, 0, none⟩) (1) (1) (List.replicate (1) (.int .i64 (s : Nat))) rfl HLen.out hsrc HOne.out H63.out.1 H63.out.2 hz12 ?_; intro v' w13 hown13 hgrow13))
                    have ha13 := ha12.grownL hown12 hgrow13 (by omega) (fun a ha => by have := hA a ha; omega)
                    have hlm13 := hlm12.grow hown13 hgrow13 (by omega)
                    have hmes := ha13.left (8 * T.length)
                    have HM6 := Lib.hid hmes
                    clear hmes ha12 hlm12 hsrc hown13 hgrow13 hown12
                    go_roundw
                    case rel => exact lens_more hlm13 HL15.out (by omega) hlt (by omega) (by omega) ha13 hf HN.out
                    case measure => rw [HM.out, HM6.out]; omega
                  · by_cases hsx : s = 16
                    · subst hsx
                      by_cases hnil : L = []
                      · have HFIN : Hid (o = none) := HJ.out.trans (congrArg _ (lensK_nil hnil))
                        have hlb : ((L.length : Int) == 0) = true := by simp [hnil]
                        have hmes := (ha10.halt 2).left (.inl rfl) (8 * T.length)
                        have HM6 := Lib.hid hmes
                        clear hmes HJ hnil
                        go_wp2_with fail
                        go_roundw
                        case rel => exact lens_bad (hlm10.only ((Only.refl [b] _).set (.inl (List.mem_singleton.2 rfl)) _ _) hb0 (by omega)) HL15.out hLm (ha10.halt 2) HFIN.out
                        case measure => rw [HM.out, HM6.out]; omega
                      · have HN : Hid (o = tailK (v1 + 257) (v2 + 1) (lensR T codes m f (fun v => L ++ List.replicate (3 + v) (L.getD (L.length - 1) 0)) (numS T (some I1) 2))) := HJ.out.trans (congrArg _ (lensK_16 hnil))
                        have hpos : 0 < L.length := List.length_pos_iff.2 hnil
                        have hlb : ((L.length : Int) == 0) = false := by simp; exact hnil
                        have hown10 := hlm10.own
                        obtain ⟨g, rfl, hcg⟩ := own_num hown10 (L.length - 1) (by omega)
                        have hgb : w9.heap.size ≤ g := (hown10.lt g rfl).1
                        have hx15 : L.getD (L.length - 1) 0 ≤ 15 := HL15.out _ (by rw [List.getD_eq_getElem?_getD, List.getElem?_eq_getElem (by omega)]; exact List.getElem_mem _)
                        clear HJ hnil hown10
                        generalize L.getD (L.length - 1) 0 = x at *
                        have HCG := Lib.hid hcg
                        clear hcg
                        go_wp2_with fail
                        have hl7 := numS_lt T (some I1) 2
                        have hnle := numS_le T I1 2
                        have hN2 : ∀ W : World, Alive W b A cap T I1 → Calls Try.prog 17 #[.pointer (some ⟨b, 0, none⟩), .int .i64 2] W fun e w' => e = .returned (.int .i64 ((numS T (some I1) 2).1 : Nat)) ∧ RAt w' b A cap T (numS T (some I1) 2).2 ∧ Only [b] W w' := fun W hW => number_any b A cap T (some I1) 2 2 W hW hT rfl (by omega)
                        generalize numS T (some I1) 2 = r7 at *
                        obtain ⟨v7, s7⟩ := r7
                        replace hl7 : v7 < 4 := hl7
                        have HN2 := Lib.hid hN2
                        have HNL := Lib.hid hnle
                        clear hN2 hnle
                        have hwr1 : IntKind.i64.wrap ((L.length : Int) - 1) = (L.length : Int) - 1 := IntWalk.i64_in _ (by omega)
                        have hi0 : (0 : Int) ≤ (L.length : Int) - 1 := by omega
                        have hi1 : (1 : Int) ≤ (L.length : Int) := by omega
                        have hi2 : ((L.length : Int) - 1).toNat = L.length - 1 := by omega
                        have hi3 : (L.length : Int) - 1 < (L.length : Int) := by omega
                        have hcg := HCG.out
                        have hwr2 : IntKind.i64.wrap (3 + (v7 : Int)) = 3 + (v7 : Int) := IntWalk.i64_in _ (by omega)
                        go_region_with (go_at_call 17; refine (HN2.out _ (by exact ha10.same rfl)).mono ?_; rintro e w11 ⟨rfl, hr11, hO11⟩; have hcx := hO11.cell (p := ⟨g, L.length - 1, none⟩) (by simp; omega) hcg)
                        all_goals
                          have hO12 : Only [b] w10 w11 := ⟨hO11.os, hO11.tape, hO11.output, hO11.size, hO11.block⟩
                          have hlm11 := hlm10.only hO12 hb0 (by omega)
                          clear hwr1 hi2 hcg hwr2 hcx hO11 HN2 HCG
                          clear ha10 hlm10 h4 f4 hO12
                          rcases s7 with _ | I2
                          · have HFIN : Hid (o = none) := HN.out
                            have hh := Dead.halt hr11
                            obtain ⟨h4, f4⟩ := hh.e
                            have hmes := hh.left (.inl rfl) (8 * T.length)
                            have HM6 := Lib.hid hmes
                            clear hmes
                            go_wp2
                            go_roundw
                            case rel => exact lens_bad hlm11 HL15.out hLm hh HFIN.out
                            case measure => rw [HM.out, HM6.out]; omega
                          · have ha10 : Alive w11 b A cap T I2 := hr11
                            have HI := Lib.hid (HNL.out _ rfl (by omega))
                            obtain ⟨h4, f4⟩ := ha10.e0
                            have hlm10 := hlm11
                            clear HNL hr11 hlm11
                            go_wp2_with fail
                            have ha11 := ha10.alloc (.cells #[.int .i64 (x : Nat)] 3)
                            have hlm11 := hlm10.alloc (.cells #[.int .i64 (x : Nat)] 3)
                            refine (repeat_k _ x (3 + v7) _ _ (w11.heap.size + 1) (by simp) ((Blk.new _ 3 _).cell 0) (by go_num) (by omega) (by omega)).mono ?_
                            rintro e w12 ⟨rfl, hsrc, hbel⟩
                            have ha12 := ha11.keepB hbel
                            have hlm12 := hlm11.below hbel
                            have hz12 := hlm12.o9.size
                            have HOne := Lib.hid (rep_one (3 + v7) x)
                            have HLen := Lib.hid (rep_len (3 + v7) x)
                            have H63 := Lib.hid (len63 (show L.length + (3 + v7) ≤ 1000 by omega))
                            have hown12 := hlm12.own
                            clear hbel ha10 hlm10 ha11 hlm11 h4 f4
                            go_wp2_with (at_builtin; go_loud (refine wpList_append_src _ rfl (.tmp 101) (.tmp 105) 28 rfl w9.heap.size 3 i0 (.int .i64 0) 1 8 Try.underlying28 hi hz0 hz1 hz2 rfl (by decide) (.slice (some ⟨g, 0, none⟩) L.length c2) L.length (numsV L) rfl hown12 (some ⟨w11.heap.size + 1, 0, none⟩) (3 + v7) (3 + v7) (List.replicate (3 + v7) (.int .i64 (x : Nat))) rfl HLen.out hsrc HOne.out H63.out.1 H63.out.2 hz12 ?_; intro v' w13 hown13 hgrow13))
                            have ha13 := ha12.grownL hown12 hgrow13 (by omega) (fun a ha => by have := hA a ha; omega)
                            have hlm13 := hlm12.grow hown13 hgrow13 (by omega)
                            have hmes := ha13.left (8 * T.length)
                            have HM6 := Lib.hid hmes
                            clear hmes ha12 hlm12 hsrc hown13 hgrow13 hown12
                            go_roundw
                            case rel => exact lens_more hlm13 HL15.out hx15 hlt (by omega) (by omega) ha13 hf HN.out
                            case measure => have := HI.out; rw [HM.out, HM6.out]; omega
                    · have e16 : ((s : Int) == 16) = false := by simp; omega
                      by_cases hsy : s = 17
                      · subst hsy
                        have HN : Hid (o = tailK (v1 + 257) (v2 + 1) (lensR T codes m f (fun v => L ++ List.replicate (3 + v) 0) (numS T (some I1) 3))) := by
                          exact HJ.out.trans (congrArg _ lensK_17)
                        clear HJ
                        go_wp2_with fail
                        refine (number_any b A cap T (some I1) 3 _ _ ha10 hT rfl (by omega)).mono ?_
                        rintro e w11 ⟨rfl, hr11, hO11⟩
                        have hl7 := numS_lt T (some I1) 3
                        have hlm11 := hlm10.only hO11 hb0 (by omega)
                        have hnle := numS_le T I1 3
                        generalize numS T (some I1) 3 = r7 at *
                        obtain ⟨v7, s7⟩ := r7
                        replace hl7 : v7 < 8 := hl7
                        clear ha10 hlm10 h4 f4 hO11
                        rcases s7 with _ | I2
                        · have HFIN : Hid (o = none) := HN.out
                          have hh := Dead.halt hr11
                          obtain ⟨h4, f4⟩ := hh.e
                          have hmes := hh.left (.inl rfl) (8 * T.length)
                          have HM6 := Lib.hid hmes
                          clear hmes
                          go_wp2
                          go_roundw
                          case rel => exact lens_bad hlm11 HL15.out hLm hh HFIN.out
                          case measure => rw [HM.out, HM6.out]; omega
                        · have ha10 : Alive w11 b A cap T I2 := hr11
                          have HI := Lib.hid (hnle _ rfl (by omega))
                          obtain ⟨h4, f4⟩ := ha10.e0
                          have hlm10 := hlm11
                          clear hnle hr11 hlm11
                          go_wp2_with fail
                          have ha11 := ha10.alloc (.cells #[.int .i64 (0 : Nat)] 3)
                          have hlm11 := hlm10.alloc (.cells #[.int .i64 (0 : Nat)] 3)
                          refine (repeat_k _ 0 (3 + v7) _ _ (w11.heap.size + 1) (by simp) ((Blk.new _ 3 _).cell 0) (by go_num) (by omega) (by omega)).mono ?_
                          rintro e w12 ⟨rfl, hsrc, hbel⟩
                          have ha12 := ha11.keepB hbel
                          have hlm12 := hlm11.below hbel
                          have hz12 := hlm12.o9.size
                          have HOne := Lib.hid (rep_one (3 + v7) 0)
                          have HLen := Lib.hid (rep_len (3 + v7) 0)
                          have H63 := Lib.hid (len63 (show L.length + (3 + v7) ≤ 1000 by omega))
                          have hown12 := hlm12.own
                          clear hbel ha10 hlm10 ha11 hlm11 h4 f4
                          go_wp2_with (at_builtin; go_loud (refine wpList_append_src _ rfl (.tmp 101) (.tmp 105) 28 rfl w9.heap.size 3 i0 (.int .i64 0) 1 8 Try.underlying28 hi hz0 hz1 hz2 rfl (by decide) (.slice A2 L.length c2) L.length (numsV L) rfl hown12 (some ⟨w11.heap.size + 1, 0, none⟩) (3 + v7) (3 + v7) (List.replicate (3 + v7) (.int .i64 (0 : Nat))) rfl HLen.out hsrc HOne.out H63.out.1 H63.out.2 hz12 ?_; intro v' w13 hown13 hgrow13))
                          have ha13 := ha12.grownL hown12 hgrow13 (by omega) (fun a ha => by have := hA a ha; omega)
                          have hlm13 := hlm12.grow hown13 hgrow13 (by omega)
                          have hmes := ha13.left (8 * T.length)
                          have HM6 := Lib.hid hmes
                          clear hmes ha12 hlm12 hsrc hown13 hgrow13 hown12
                          go_roundw
                          case rel => exact lens_more hlm13 HL15.out (by omega) hlt (by omega) (by omega) ha13 hf HN.out
                          case measure => have := HI.out; rw [HM.out, HM6.out]; omega
                      · obtain rfl : s = 18 := by omega
                        have HN : Hid (o = tailK (v1 + 257) (v2 + 1) (lensR T codes m f (fun v => L ++ List.replicate (11 + v) 0) (numS T (some I1) 7))) := by
                          exact HJ.out.trans (congrArg _ lensK_18)
                        clear HJ
                        go_wp2_with fail
                        refine (number_any b A cap T (some I1) 7 _ _ ha10 hT rfl (by omega)).mono ?_
                        rintro e w11 ⟨rfl, hr11, hO11⟩
                        have hl7 := numS_lt T (some I1) 7
                        have hlm11 := hlm10.only hO11 hb0 (by omega)
                        have hnle := numS_le T I1 7
                        generalize numS T (some I1) 7 = r7 at *
                        obtain ⟨v7, s7⟩ := r7
                        replace hl7 : v7 < 128 := hl7
                        clear ha10 hlm10 h4 f4 hO11
                        rcases s7 with _ | I2
                        · have HFIN : Hid (o = none) := HN.out
                          have hh := Dead.halt hr11
                          obtain ⟨h4, f4⟩ := hh.e
                          have hmes := hh.left (.inl rfl) (8 * T.length)
                          have HM6 := Lib.hid hmes
                          clear hmes
                          go_wp2
                          go_roundw
                          case rel => exact lens_bad hlm11 HL15.out hLm hh HFIN.out
                          case measure => rw [HM.out, HM6.out]; omega
                        · have ha10 : Alive w11 b A cap T I2 := hr11
                          have HI := Lib.hid (hnle _ rfl (by omega))
                          obtain ⟨h4, f4⟩ := ha10.e0
                          have hlm10 := hlm11
                          clear hnle hr11 hlm11
                          go_wp2_with fail
                          have ha11 := ha10.alloc (.cells #[.int .i64 (0 : Nat)] 3)
                          have hlm11 := hlm10.alloc (.cells #[.int .i64 (0 : Nat)] 3)
                          refine (repeat_k _ 0 (11 + v7) _ _ (w11.heap.size + 1) (by simp) ((Blk.new _ 3 _).cell 0) (by go_num) (by omega) (by omega)).mono ?_
                          rintro e w12 ⟨rfl, hsrc, hbel⟩
                          have ha12 := ha11.keepB hbel
                          have hlm12 := hlm11.below hbel
                          have hz12 := hlm12.o9.size
                          have HOne := Lib.hid (rep_one (11 + v7) 0)
                          have HLen := Lib.hid (rep_len (11 + v7) 0)
                          have H63 := Lib.hid (len63 (show L.length + (11 + v7) ≤ 1000 by omega))
                          have hown12 := hlm12.own
                          clear hbel ha10 hlm10 ha11 hlm11 h4 f4
                          go_wp2_with (at_builtin; go_loud (refine wpList_append_src _ rfl (.tmp 101) (.tmp 105) 28 rfl w9.heap.size 3 i0 (.int .i64 0) 1 8 Try.underlying28 hi hz0 hz1 hz2 rfl (by decide) (.slice A2 L.length c2) L.length (numsV L) rfl hown12 (some ⟨w11.heap.size + 1, 0, none⟩) (11 + v7) (11 + v7) (List.replicate (11 + v7) (.int .i64 (0 : Nat))) rfl HLen.out hsrc HOne.out H63.out.1 H63.out.2 hz12 ?_; intro v' w13 hown13 hgrow13))
                          have ha13 := ha12.grownL hown12 hgrow13 (by omega) (fun a ha => by have := hA a ha; omega)
                          have hlm13 := hlm12.grow hown13 hgrow13 (by omega)
                          have hmes := ha13.left (8 * T.length)
                          have HM6 := Lib.hid hmes
                          clear hmes ha12 hlm12 hsrc hown13 hgrow13 hown12
                          go_roundw
                          case rel => exact lens_more hlm13 HL15.out (by omega) hlt (by omega) (by omega) ha13 hf HN.out
                          case measure => have := HI.out; rw [HM.out, HM6.out]; omega
              · rw [lensF_end hlt (by omega)] at ho
                have hge : ¬ ((L.length : Int) < (v1 : Int) + 257 + ((v2 : Int) + 1)) := by have := HMM.out; omega
                by_cases hlen : L.length = m
                · have hlb : ((L.length : Int) != (v1 : Int) + 257 + ((v2 : Int) + 1)) = false := by have := HMM.out; simp; omega
                  have hc256 := own_num hown 256 (by omega)
                  by_cases h256 : L.getD 256 0 = 0
                  · have hfin : o = none := by rw [ho]; exact if_neg (by intro h; exact h.2.1 h256)
                    have HFIN := Lib.hid hfin
                    obtain ⟨g, rfl, hcg⟩ := hc256
                    replace hcg : wr.cell? ⟨g, 256, none⟩ = some (.int .i64 0) := by rw [hcg, h256]; rfl
                    have hl256 : (256 : Int) < (L.length : Int) := by omega
                    have hl256n : 256 < L.length := by omega
                    clear ho hfin hlen h256
                    go_wp2_with fail
                    have hy0 := ht0.far (p := ⟨b, 4, none⟩) (by simp; omega) (.int .i64 2)
                    have hy1 := ht1.far (p := ⟨b, 4, none⟩) (by simp; omega) (.int .i64 2)
                    refine ret_two (p := 2) (q := 3) (x := 129) (y := 130) rfl rfl (by simp) (by simp) (by decide) (by decide) (by decide) (by decide) (by decide) hy0 hy1 rfl rfl (tab_one _ rfl) (tab_one _ rfl) ?_
                    intro a' h2 h3 hd
                    go_wp2
                    refine bodyPost_ret_by (results_tab2 f20_results h2 h3 (hy0.drewN 1) (hy1.drewN 1)) hd ?_
                    exact owned_none HFIN.out ((hO.set (.inl (List.mem_singleton.2 rfl)) _ _).drewN 1) (ha.halt 2)
                  · obtain ⟨g, rfl, hcg⟩ := hc256
                    have hxb : (((L.getD 256 0 : Nat) : Int) == 0) = false := by simpa using h256
                    have hl256 : (256 : Int) < (L.length : Int) := by omega
                    have hl256n : 256 < L.length := by omega
                    have hcap := own_cap hown
                    have hca : (0 : Int) ≤ (v1 : Int) + 257 := by omega
                    have hcb : (v1 : Int) + 257 ≤ (c2 : Int) := by have := HMM.out; omega
                    have H256 := Lib.hid h256
                    have HOO := Lib.hid ho
                    have HLEN := Lib.hid hlen
                    generalize hx256 : L.getD 256 0 = x256 at hcg hxb
                    clear ho hlen h256 hx256
                    have hnA := nums_take hown (v1 + 257) (by have := HMM.out; have := HLEN.out; omega)
                    have hnB := nums_drop hown (v1 + 257) (by have := HMM.out; have := HLEN.out; omega)
                    go_wp2_with fail
                    refine (table_at _ _ _ (L.take (v1 + 257)) _ hnA (by rw [List.length_take]; have := HMM.out; have := HLEN.out; omega) (by rw [List.length_take]; omega) (fun y hy => hL15 y (List.mem_of_mem_take hy))).mono ?_
                    rintro e w10 ⟨va, rfl, ⟨Aa, na, ka, rfl⟩, howa, hb10⟩
                    have hem10 := (EM.mk hO ht0 ht1).below hb10
                    have ha10 := ha.keepB hb10
                    have hnB10 := hnB.below hb10
                    have hzr : w.heap.size + 1 < wr.heap.size := ht1.lt
                    have hgw : w9.heap.size ≤ g := (hown.lt g rfl).1
                    have hz10 := hb10.size
                    have hem11 := hem10.row0 (tabCells (fun n => (L.take (v1 + 257)).count n) (.slice Aa na ka))
                    have ha11 := ha10.rowFar (g := w.heap.size) hb0 hA (tabCells (fun n => (L.take (v1 + 257)).count n) (.slice Aa na ka))
                    have hnB11 := hnB10.rowFar (g := w.heap.size) (fun a h => by injection h with h; rw [← h]; show g ≠ _; omega) (tabCells (fun n => (L.take (v1 + 257)).count n) (.slice Aa na ka))
                    have hownA := fun h => own_rowLt (howa h) (g := w.heap.size) (by omega) (tabCells (fun n => (L.take (v1 + 257)).count n) (.slice Aa na ka))
                    clear howa hnA hnB hO ht0 ht1 ha hb10 h4 f4 hown hcg ha10 hnB10
                    generalize hw11 : World.setRow w10 w.heap.size (tabCells (fun n => (L.take (v1 + 257)).count n) (.slice Aa na ka)) = w11 at hem11 ha11 hnB11 hownA
                    have HW11 := Lib.hid hw11
                    have HWA := Lib.hid hownA
                    clear hw11 hownA
                    obtain ⟨h4, f4⟩ := ha11.e0
                    have hl3a : L.length ≤ 320 := by have := HLEN.out; omega
                    cases hRA : right (L.take (v1 + 257))
                    · have hfin : o = none := by rw [HOO.out]; exact if_neg (by intro h; have := h.2.2.1; rw [hRA] at this; cases this)
                      have HFIN := Lib.hid hfin
                      clear hfin hRA HOO HWA
                      go_wp2_with (refine wpList_store_row rfl 55 (.tmp 2) (.tmp 136) rfl w.heap.size (tabCells (fun n => (L.take (v1 + 257)).count n) (.slice Aa na ka)) rfl rfl 55 _ hem10.t0 ti55 rfl (tab_one _ rfl) ?_; rw [HW11.out])
                      have hem12 := hem11.set hb0 4 (.int .i64 2)
                      have hh12 := ha11.halt 2
                      have hnB12 := hnB11.setFar (g := b) (fun a h => by injection h with h; rw [← h]; show g ≠ _; omega) 4 (.int .i64 2)
                      clear hem11 ha11 hnB11 h4 f4
                      refine (table_at _ _ _ (L.drop (v1 + 257)) _ (by exact hnB12) (by rw [List.length_drop]) (by rw [List.length_drop]; omega) (fun y hy => hL15 y (List.mem_of_mem_drop hy))).mono ?_
                      rintro e w13 ⟨vb, rfl, ⟨Ab, nb, kb, rfl⟩, _, hb13⟩
                      have hem13 := hem12.below hb13
                      have hh13 := hh12.below hb13
                      have hem14 := hem13.row1 (tabCells (fun n => (L.drop (v1 + 257)).count n) (.slice Ab nb kb))
                      have hh14 := hh13.rowFar (g := w.heap.size + 1) (by omega) (tabCells (fun n => (L.drop (v1 + 257)).count n) (.slice Ab nb kb))
                      clear hem12 hh12 hh13 hnB12 hb13
                      generalize hw14 : World.setRow w13 (w.heap.size + 1) (tabCells (fun n => (L.drop (v1 + 257)).count n) (.slice Ab nb kb)) = w14 at hem14 hh14
                      have HW14 := Lib.hid hw14
                      clear hw14
                      obtain ⟨h4, f4⟩ := hh14.e
                      cases hRB : right (L.drop (v1 + 257))
                      · clear hRB
                        go_wp2_with (refine wpList_store_row rfl 55 (.tmp 3) (.tmp 148) rfl (w.heap.size + 1) (tabCells (fun n => (L.drop (v1 + 257)).count n) (.slice Ab nb kb)) rfl rfl 55 _ hem13.t1 ti55 rfl (tab_one _ rfl) ?_; rw [HW14.out])
                        have hem15 := hem14.set hb0 4 (.int .i64 2)
                        refine ret_two (p := 2) (q := 3) (x := 155) (y := 156) rfl rfl (by simp) (by simp) (by decide) (by decide) (by decide) (by decide) (by decide) hem15.t0 hem15.t1 rfl rfl (tab_one _ rfl) (tab_one _ rfl) ?_
                        intro a' h2 h3 hd
                        go_wp2
                        refine bodyPost_ret_by (results_tab2 f20_results h2 h3 (hem15.t0.drewN 1) (hem15.t1.drewN 1)) hd ?_
                        exact owned_none HFIN.out (hem15.o.drewN 1) (hh14.set 2)
                      · clear hRB
                        go_wp2_with (refine wpList_store_row rfl 55 (.tmp 3) (.tmp 148) rfl (w.heap.size + 1) (tabCells (fun n => (L.drop (v1 + 257)).count n) (.slice Ab nb kb)) rfl rfl 55 _ hem13.t1 ti55 rfl (tab_one _ rfl) ?_; rw [HW14.out])
                        refine ret_two (p := 2) (q := 3) (x := 155) (y := 156) rfl rfl (by simp) (by simp) (by decide) (by decide) (by decide) (by decide) (by decide) hem14.t0 hem14.t1 rfl rfl (tab_one _ rfl) (tab_one _ rfl) ?_
                        intro a' h2 h3 hd
                        go_wp2
                        refine bodyPost_ret_by (results_tab2 f20_results h2 h3 (hem14.t0.drewN 1) (hem14.t1.drewN 1)) hd ?_
                        exact owned_none HFIN.out (hem14.o.drewN 1) hh14
                    · have HRA := Lib.hid hRA
                      have hownA := HWA.out hRA
                      clear hRA HWA
                      go_wp2_with (refine wpList_store_row rfl 55 (.tmp 2) (.tmp 136) rfl w.heap.size (tabCells (fun n => (L.take (v1 + 257)).count n) (.slice Aa na ka)) rfl rfl 55 _ hem10.t0 ti55 rfl (tab_one _ rfl) ?_; rw [HW11.out])
                      refine (table_at _ _ _ (L.drop (v1 + 257)) _ (by exact hnB11) (by rw [List.length_drop]) (by rw [List.length_drop]; omega) (fun y hy => hL15 y (List.mem_of_mem_drop hy))).mono ?_
                      rintro e w13 ⟨vb, rfl, ⟨Ab, nb, kb, rfl⟩, howb, hb13⟩
                      have hem13 := hem11.below hb13
                      have ha13 := ha11.keepB hb13
                      have hz13 := hb13.size
                      have hownA13 := own_below hownA hb13
                      have hem14 := hem13.row1 (tabCells (fun n => (L.drop (v1 + 257)).count n) (.slice Ab nb kb))
                      have ha14 := ha13.rowFar (g := w.heap.size + 1) (by omega) (fun a h => by have := hA a h; omega) (tabCells (fun n => (L.drop (v1 + 257)).count n) (.slice Ab nb kb))
                      have hownA14 := own_rowLt hownA13 (g := w.heap.size + 1) (by omega) (tabCells (fun n => (L.drop (v1 + 257)).count n) (.slice Ab nb kb))
                      have hownB := fun h => own_rowLt (howb h) (g := w.heap.size + 1) (by have := hem11.t1.lt; omega) (tabCells (fun n => (L.drop (v1 + 257)).count n) (.slice Ab nb kb))
                      have hz11 := hem11.o.size
                      clear hem11 ha11 hnB11 hb13 hownA hownA13 ha13 h4 f4 howb
                      generalize hw14 : World.setRow w13 (w.heap.size + 1) (tabCells (fun n => (L.drop (v1 + 257)).count n) (.slice Ab nb kb)) = w14 at hem14 ha14 hownA14 hownB
                      have HW14 := Lib.hid hw14
                      have HOB := Lib.hid hownB
                      clear hw14 hownB
                      obtain ⟨h4, f4⟩ := ha14.e0
                      cases hRB : right (L.drop (v1 + 257))
                      · have hfin : o = none := by rw [HOO.out]; exact if_neg (by intro h; have := h.2.2.2; rw [hRB] at this; cases this)
                        have HFIN := Lib.hid hfin
                        clear hfin hRB HOO HOB
                        go_wp2_with (refine wpList_store_row rfl 55 (.tmp 3) (.tmp 148) rfl (w.heap.size + 1) (tabCells (fun n => (L.drop (v1 + 257)).count n) (.slice Ab nb kb)) rfl rfl 55 _ hem13.t1 ti55 rfl (tab_one _ rfl) ?_; rw [HW14.out])
                        have hem15 := hem14.set hb0 4 (.int .i64 2)
                        refine ret_two (p := 2) (q := 3) (x := 155) (y := 156) rfl rfl (by simp) (by simp) (by decide) (by decide) (by decide) (by decide) (by decide) hem15.t0 hem15.t1 rfl rfl (tab_one _ rfl) (tab_one _ rfl) ?_
                        intro a' h2 h3 hd
                        go_wp2
                        refine bodyPost_ret_by (results_tab2 f20_results h2 h3 (hem15.t0.drewN 1) (hem15.t1.drewN 1)) hd ?_
                        exact owned_none HFIN.out (hem15.o.drewN 1) (ha14.halt 2)
                      · have HRB := Lib.hid hRB
                        have hownB := HOB.out hRB
                        clear hRB HOB
                        go_wp2_with (refine wpList_store_row rfl 55 (.tmp 3) (.tmp 148) rfl (w.heap.size + 1) (tabCells (fun n => (L.drop (v1 + 257)).count n) (.slice Ab nb kb)) rfl rfl 55 _ hem13.t1 ti55 rfl (tab_one _ rfl) ?_; rw [HW14.out])
                        refine ret_two (p := 2) (q := 3) (x := 155) (y := 156) rfl rfl (by simp) (by simp) (by decide) (by decide) (by decide) (by decide) (by decide) hem14.t0 hem14.t1 rfl rfl (tab_one _ rfl) (tab_one _ rfl) ?_
                        intro a' h2 h3 hd
                        go_wp2
                        refine bodyPost_ret_by (results_tab2 f20_results h2 h3 (hem14.t0.drewN 1) (hem14.t1.drewN 1)) hd ?_
                        exact owned_some HOO.out (by have := HMM.out; have := HLEN.out; omega) H256.out HRA.out HRB.out (hem14.o.drewN 1) ha14 (by omega) (by omega) hownA14 hownB (by omega) (by omega)
                · have hlb : ((L.length : Int) != (v1 : Int) + 257 + ((v2 : Int) + 1)) = true := by have := HMM.out; simp; omega
                  have hfin : o = none := by rw [ho]; exact if_neg (by intro h; have := HMM.out; omega)
                  have HFIN := Lib.hid hfin
                  clear ho hfin hlen
                  go_wp2_with fail
                  have hy0 := ht0.far (p := ⟨b, 4, none⟩) (by simp; omega) (.int .i64 2)
                  have hy1 := ht1.far (p := ⟨b, 4, none⟩) (by simp; omega) (.int .i64 2)
                  refine ret_two (p := 2) (q := 3) (x := 129) (y := 130) rfl rfl (by simp) (by simp) (by decide) (by decide) (by decide) (by decide) (by decide) hy0 hy1 rfl rfl (tab_one _ rfl) (tab_one _ rfl) ?_
                  intro a' h2 h3 hd
                  go_wp2
                  refine bodyPost_ret_by (results_tab2 f20_results h2 h3 (hy0.drewN 1) (hy1.drewN 1)) hd ?_
                  exact owned_none HFIN.out ((hO.set (.inl (List.mem_singleton.2 rfl)) _ _).drewN 1) (ha.halt 2)
            · have HFIN := Lib.hid ho
              clear ho
              obtain ⟨h4, f4⟩ := hh.e
              go_wp2_with fail
              have hy0 := ht0.far (p := ⟨b, 4, none⟩) (by simp; omega) (.int .i64 2)
              have hy1 := ht1.far (p := ⟨b, 4, none⟩) (by simp; omega) (.int .i64 2)
              refine ret_two (p := 2) (q := 3) (x := 129) (y := 130) rfl rfl (by simp) (by simp) (by decide) (by decide) (by decide) (by decide) (by decide) hy0 hy1 rfl rfl (tab_one _ rfl) (tab_one _ rfl) ?_
              intro a' h2 h3 hd
              go_wp2
              refine bodyPost_ret_by (results_tab2 f20_results h2 h3 (hy0.drewN 1) (hy1.drewN 1)) hd ?_
              exact owned_none HFIN.out ((hO.set (.inl (List.mem_singleton.2 rfl)) _ _).drewN 1) (hh.set 2)
end Go.Proofs.Ythceefhnmjjddaa
