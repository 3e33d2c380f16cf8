/-
  The document's Sign, by a contract.
-/
import Derived.Test.YthceefhnmjjddaaRefWords
import Derived.Test.YthceefhnmjjddaaRefLength
import Derived.Test.YthceefhnmjjddaaSignSpec
namespace Go.Proofs.Ythceefhnmjjddaa
open Go.RowKit

/-- What Sign gives. -/
def RSigned (o : Option (Nat × Nat)) (b : Nat) (A : Option Addr) (cap : Nat) (T : List UInt8) (w : World) (e : Ending) (w' : World) : Prop :=
  match o with
  | some (s, I') => e = .returned (.int .i64 (s : Nat)) ∧ RAlive w' b A cap T I' ∧ Only [b] w w'
  | none => e = .returned (.int .i64 (-1)) ∧ RHalt w' b 2 ∧ Only [b] w w'
theorem rsigned_some {o : Option (Nat × Nat)} {b : Nat} {A : Option Addr} {cap : Nat} {T : List UInt8} {w w' : World} {s s' I' : Nat} (ho : o = some (s', I')) (hs : s = s') (ha : RAlive w' b A cap T I') (hO : Only [b] w w') :
    RSigned o b A cap T w (.returned (.int .i64 (s : Nat))) w' := by
  subst ho hs; exact ⟨rfl, ha, hO⟩
theorem rsigned_none {o : Option (Nat × Nat)} {b : Nat} {A : Option Addr} {cap : Nat} {T : List UInt8} {w w' : World} (ho : o = none) (ha : RHalt w' b 2) (hO : Only [b] w w') :
    RSigned o b A cap T w (.returned (.int .i64 (-1))) w' := by
  subst ho; exact ⟨rfl, ha, hO⟩
theorem slice8_0 (W : World) : (Instr.slice 9 (.string ⟨#[48, 49]⟩) (some (.int .u8 0)) (some (.int .u8 1)) none).run Try.prog W = .ok (.string ⟨#[48]⟩) W := by kernel_rfl
theorem slice8_1 (W : World) : (Instr.slice 9 (.string ⟨#[48, 49]⟩) (some (.int .u8 1)) (some (.int .u8 2)) none).run Try.prog W = .ok (.string ⟨#[49]⟩) W := by kernel_rfl
theorem text_cell {w : World} {g i : Nat} {L : List Nat} (h : w.heap[g]? = some (.cells (textsV (wordsL L)).toArray 9 (0, 0))) (hi : i < L.length) : w.cell? ⟨g, i, none⟩ = some (.string ⟨(wordL L i).toArray⟩) := by
  rw [cell_of_row _ _ _ _ _ _ h, List.getElem?_toArray]
  simp [textsV, wordsL, hi]

theorem rsign_step {w : World} {b : Nat} {A : Option Addr} {cap : Nat} {T : List UInt8} {I : Nat} (h : RAlive w b A cap T I) (nq : Nat) (hI : I + 1 ≤ 8 * T.length) : RAlive ((w.drewN nq).setCell ⟨b, 1, none⟩ (.int .i64 ((I : Int) + 1))) b A cap T (I + 1) ∧ Only [b] w ((w.drewN nq).setCell ⟨b, 1, none⟩ (.int .i64 ((I : Int) + 1))) := by
  have hO : Only [b] w ((w.drewN nq).setCell ⟨b, 1, none⟩ (.int .i64 ((I : Int) + 1))) := ((Only.refl _ w).drewN nq).set (.inl (List.mem_singleton.2 rfl)) _ _
  exact ⟨h.at_ hO ((h.blk.drewN nq).set_ 1 (.int .i64 ((I : Int) + 1))) hI, hO⟩
theorem rsign_halt {w : World} {b : Nat} {A : Option Addr} {cap : Nat} {T : List UInt8} {I : Nat} (h : RAlive w b A cap T I) (nq : Nat) : RHalt ((w.drewN nq).setCell ⟨b, 2, none⟩ (.int .i64 2)) b 2 ∧ Only [b] w ((w.drewN nq).setCell ⟨b, 2, none⟩ (.int .i64 2)) :=
  ⟨⟨_, _, (h.blk.drewN nq).set_ 2 (.int .i64 2)⟩, ((Only.refl _ w).drewN nq).set (.inl (List.mem_singleton.2 rfl)) _ _⟩
theorem word_eq {n c d : Nat} {S : List UInt8} {x : UInt8} (h : binL n c = S) (hd : d < 2) (hx : (48 + d).toUInt8 = x) : S ++ [x] = binL (n + 1) (2 * c + d) := by
  rw [binL_more n c d hd, h, hx]
theorem sign_hit {T : List UInt8} {L : List Nat} {n c I j d : Nat} (hf : fits L 15 = true) (hn : n + 1 ≤ 15) (hj : j < L.length) (hc : c < 2 ^ n) (_h : 0 < 15 - n) (hd : bitAt T I = d) (hI : I < 8 * T.length) (h : wordL L j = binL (n + 1) (2 * c + d)) : signF T L (15 - n) (n + 1) c I = some (j, I + 1) := by
  have hb := bitAt_lt T I
  have h1 := word_hit hf hn hj (by rw [Nat.pow_succ]; omega) h
  obtain ⟨m, hm⟩ : ∃ m, 15 - n = m + 1 := ⟨15 - n - 1, by omega⟩
  rw [hm, signF_got hI (by rw [hd]; exact h1.2.1), hd, h1.2.2]
/-- Sign's loop: the n-th bit comes. -/
def RSignRel (o : Option (Nat × Nat)) (b : Nat) (A : Option Addr) (cap : Nat) (T : List UInt8) (L : List Nat) (w : World) (t : Value) (wr : World) : Prop :=
  ∃ n c I : Nat, n ≤ 15 ∧ t = .string ⟨(binL n c).toArray⟩ ∧ c < 2 ^ n ∧ beh L n ≤ c ∧ o = signF T L (15 - n) (n + 1) c I ∧ RAlive wr b A cap T I ∧ Only [b] w wr

theorem sign_next {o : Option (Nat × Nat)} {b : Nat} {A : Option Addr} {cap : Nat} {T : List UInt8} {L : List Nat} {w w' : World} {n c I d : Nat} {S2 : List UInt8} (hn : n < 15) (hf : fits L 15 = true) (hc : c < 2 ^ n) (hb : beh L n ≤ c) (hd : bitAt T I = d) (hI : I < 8 * T.length) (ho : o = signF T L (15 - n) (n + 1) c I) (he : S2 = binL (n + 1) (2 * c + d)) (hno : ∀ q, q < L.length → wordL L q ≠ S2) (ha : RAlive w' b A cap T (I + 1)) (hO : Only [b] w w') :
    RSignRel o b A cap T L w (.string ⟨S2.toArray⟩) w' := by
  have h1 := bitAt_lt T I
  have _hf := hf
  have h2 : ¬ 2 * c + bitAt T I < beh L (n + 1) := by
    intro h
    obtain ⟨i, hi, hw⟩ := word_some (L := L) (n := n) (c := 2 * c + bitAt T I) (by omega) h
    exact hno i hi (by rw [hw, he, hd])
  obtain ⟨m, hm⟩ : ∃ m, 15 - n = m + 1 := ⟨15 - n - 1, by omega⟩
  rw [hm, signF_more hI h2, hd] at ho
  rw [hd] at h1 h2
  exact ⟨n + 1, 2 * c + d, I + 1, by omega, by rw [he], by rw [Nat.pow_succ]; omega, by omega, by rw [show 15 - (n + 1) = m by omega]; exact ho, ha, hO⟩

set_option maxHeartbeats 2000000 in
set_option maxRecDepth 100000 in
theorem rsign_any (b g : Nat) (A : Option Addr) (cap : Nat) (T : List UInt8) (L : List Nat) (I : Nat) (w : World) (h : RAlive w b A cap T I) (hT : T.length ≤ 65536) (hL : L.length ≤ 65536) (hr : right L = true) (hrow : w.heap[g]? = some (.cells (textsV (wordsL L)).toArray 9 (0, 0))) (hgb : g ≠ b) :
    Calls Try.prog 25 #[.pointer (some ⟨b, 0, none⟩), .slice (some ⟨g, 0, none⟩) L.length L.length] w (RSigned (signS T L I) b A cap T w) := by
  have hs0 : signS T L I = signF T L 15 1 0 I := rfl
  have HF := Lib.hid (right_fits hr)
  generalize signS T L I = o at *
  have HS0 := Lib.hid hs0
  clear hs0 hr
  go_enter Try.func25, Try.ntmps25
  go_wp2_with fail
  go_loopw [5] (fun t wr => RSignRel o b A cap T L w t wr) (fun t _ => 15 - (match t with | .string s => s.size | _ => 0))
  case atStart => exact ⟨0, 0, I, by omega, rfl, by decide, Nat.zero_le _, HS0.out, h, Only.refl _ _⟩
  case round =>
    clear h
    obtain ⟨n, c, I1, hn, rfl, hc, hbh, ho, ha, hO⟩ := hrel
    have hlen := binL_length n c
    have HO := Lib.hid ho
    have HC := Lib.hid hc
    have HBH := Lib.hid hbh
    have hrow2 := (hO.block g (Array.getElem?_eq_some_iff.1 hrow).1 (by simp; exact hgb)).trans hrow
    have HROW := Lib.hid hrow2
    clear hrow2
    obtain ⟨h2c, f2c⟩ := ha.cells
    obtain ⟨h0c, h1c, f1c⟩ : _ ∧ _ ∧ _ := ⟨ha.blk.cell 0, ha.blk.cell 1, ha.blk.frozen 1⟩
    have hsz : (⟨(binL n c).toArray⟩ : ByteArray).size = n := by show (binL n c).toArray.size = n; simpa using hlen
    clear ho hc hbh
    generalize hS : binL n c = S at *
    have HSS := Lib.hid hS
    clear hS
    by_cases hlt : n < 15 ∧ I1 < 8 * T.length
    · obtain ⟨hn15, hI8⟩ := hlt
      generalize hN : 8 * T.length = N at *
      have HN := Lib.hid hN
      clear hN
      have hd1 : decide ((n : Int) < 15) = true := by simp; omega
      have hd2 : decide ((I1 : Int) < (N : Int)) = true := by simp; omega
      have HSZ := Lib.hid hsz
      go_wp2_with fail
      go_quiet (fail)
      go_wp2_with fail
      obtain ⟨ga, oa, rfl, hcg⟩ := bits_cell ha.bits (show I1 < 8 * T.length by have := HN.out; omega)
      have hbit := bitAt_lt T I1
      obtain ⟨d, hd⟩ : ∃ d, bitAt T I1 = d := ⟨_, rfl⟩
      rw [hd] at hcg hbit
      have HD := Lib.hid hd
      have HSL := Lib.hid hlen.symm
      clear hd hlen
      have hd2 : d = 0 ∨ d = 1 := by omega
      have HSIG : Hid (0 < 15 - n) := Lib.hid (by omega)
      rcases hd2 with rfl | rfl
      · have hsl := slice8_0
        have hw1 : IntKind.u8.wrap 1 = 1 := by decide
        have hcat := cat_one S 48 (by rw [← HSL.out]; omega)
        have hIw : wrap64 ((I1 : Int) + 1) = (I1 : Int) + 1 := IntWalk.wrap64_in _ (by have := HN.out; omega)
        have hcg2 : wr.cell? ⟨ga, oa + I1, none⟩ = some (.int .u8 0) := hcg
        clear hcg
        go_wp2_with fail
        go_quiet (fail)
        clear hsl hw1 hcat
        go_wp2_with fail
        have hstep := fun nq => rsign_step ha nq (show I1 + 1 ≤ 8 * T.length by have := HN.out; omega)
        have HSTEP := Lib.hid hstep
        have HEQ := Lib.hid (word_eq (c := c) HSS.out (show 0 < 2 by decide) (show ((48 + 0).toUInt8 : UInt8) = 48 from rfl))
        clear hstep ha h2c f2c h0c h1c f1c hcg2 hIw
        generalize S ++ [48] = S2 at *
        go_loop [56] (fun i => ∃ j : Nat, i = .int .i64 (j : Nat) ∧ j ≤ L.length ∧ Hid (∀ q, q < j → wordL L q ≠ S2)) (fun i => L.length - (intOf i).toNat)
        case atStart => exact ⟨0, rfl, Nat.zero_le _, Lib.hid (fun q hq => absurd hq (Nat.not_lt_zero q))⟩
        case round =>
          obtain ⟨j, rfl, hj, hno⟩ := hrel
          by_cases hjl : j < L.length
          · have hcell : ∀ nq, ((wr.drewN nq).setCell ⟨b, 1, none⟩ (.int .i64 ((I1 : Int) + 1))).cell? ⟨g, j, none⟩ = some (.string ⟨(wordL L j).toArray⟩) := fun nq => text_cell (((Below.heap_setCell _ _ _ _ hgb).trans (HROW.out))) hjl
            by_cases hhit : wordL L j = S2
            · have HIT := Lib.hid (sign_hit HF.out (by omega) hjl HC.out (HSIG.out) HD.out (by have := HN.out; omega) (hhit.trans HEQ.out))
              rw [hhit] at hcell
              clear hhit hno
              go_wp2
              go_ret
              exact rsigned_some (HO.out.trans HIT.out) rfl (HSTEP.out _).1 (hO.trans (HSTEP.out _).2)
            · have hne : (wordL L j == S2) = false := by simpa using hhit
              have hno2 : Hid (∀ q, q < j + 1 → wordL L q ≠ S2) := Lib.hid (fun q hq => by rcases Nat.lt_succ_iff_lt_or_eq.1 hq with h | h; exact hno.out q h; subst h; exact hhit)
              generalize wordL L j = WJ at *
              clear hhit hno
              go_wp2
              go_roundw
              case rel => exact ⟨j + 1, by go_num, by omega, hno2⟩
              case measure => simp [intOf]; omega
          · obtain rfl : j = L.length := by omega
            go_wp2
            go_roundw
            case rel => exact sign_next (d := 0) (by omega) HF.out HC.out HBH.out HD.out (by have := HN.out; omega) HO.out HEQ.out hno.out (HSTEP.out _).1 (hO.trans (HSTEP.out _).2)
            case measure =>
              have hs2 := congrArg List.length HEQ.out
              rw [binL_length] at hs2
              show 15 - S2.toArray.size < 15 - S.toArray.size
              have hs1 := HSL.out
              simp only [List.size_toArray]
              omega
      · have hsl := slice8_1
        have hw1 : IntKind.u8.wrap 2 = 2 := by decide
        have hcat := cat_one S 49 (by rw [← HSL.out]; omega)
        have hIw : wrap64 ((I1 : Int) + 1) = (I1 : Int) + 1 := IntWalk.wrap64_in _ (by have := HN.out; omega)
        have hcg2 : wr.cell? ⟨ga, oa + I1, none⟩ = some (.int .u8 1) := hcg
        clear hcg
        go_wp2_with fail
        go_quiet (fail)
        clear hsl hw1 hcat
        go_wp2_with fail
        have hstep := fun nq => rsign_step ha nq (show I1 + 1 ≤ 8 * T.length by have := HN.out; omega)
        have HSTEP := Lib.hid hstep
        have HEQ := Lib.hid (word_eq (c := c) HSS.out (show 1 < 2 by decide) (show ((48 + 1).toUInt8 : UInt8) = 49 from rfl))
        clear hstep ha h2c f2c h0c h1c f1c hcg2 hIw
        generalize S ++ [49] = S2 at *
        go_loop [56] (fun i => ∃ j : Nat, i = .int .i64 (j : Nat) ∧ j ≤ L.length ∧ Hid (∀ q, q < j → wordL L q ≠ S2)) (fun i => L.length - (intOf i).toNat)
        case atStart => exact ⟨0, rfl, Nat.zero_le _, Lib.hid (fun q hq => absurd hq (Nat.not_lt_zero q))⟩
        case round =>
          obtain ⟨j, rfl, hj, hno⟩ := hrel
          by_cases hjl : j < L.length
          · have hcell : ∀ nq, ((wr.drewN nq).setCell ⟨b, 1, none⟩ (.int .i64 ((I1 : Int) + 1))).cell? ⟨g, j, none⟩ = some (.string ⟨(wordL L j).toArray⟩) := fun nq => text_cell (((Below.heap_setCell _ _ _ _ hgb).trans (HROW.out))) hjl
            by_cases hhit : wordL L j = S2
            · have HIT := Lib.hid (sign_hit HF.out (by omega) hjl HC.out (HSIG.out) HD.out (by have := HN.out; omega) (hhit.trans HEQ.out))
              rw [hhit] at hcell
              clear hhit hno
              go_wp2
              go_ret
              exact rsigned_some (HO.out.trans HIT.out) rfl (HSTEP.out _).1 (hO.trans (HSTEP.out _).2)
            · have hne : (wordL L j == S2) = false := by simpa using hhit
              have hno2 : Hid (∀ q, q < j + 1 → wordL L q ≠ S2) := Lib.hid (fun q hq => by rcases Nat.lt_succ_iff_lt_or_eq.1 hq with h | h; exact hno.out q h; subst h; exact hhit)
              generalize wordL L j = WJ at *
              clear hhit hno
              go_wp2
              go_roundw
              case rel => exact ⟨j + 1, by go_num, by omega, hno2⟩
              case measure => simp [intOf]; omega
          · obtain rfl : j = L.length := by omega
            go_wp2
            go_roundw
            case rel => exact sign_next (d := 1) (by omega) HF.out HC.out HBH.out HD.out (by have := HN.out; omega) HO.out HEQ.out hno.out (HSTEP.out _).1 (hO.trans (HSTEP.out _).2)
            case measure =>
              have hs2 := congrArg List.length HEQ.out
              rw [binL_length] at hs2
              show 15 - S2.toArray.size < 15 - S.toArray.size
              have hs1 := HSL.out
              simp only [List.size_toArray]
              omega
    · have hend := HO.out.trans (signF_none (by omega))
      have HEND := Lib.hid hend
      have hx := fun nq => rsign_halt ha nq
      have HX := Lib.hid hx
      clear hend hx
      by_cases hn15 : n < 15
      · have hI8 : ¬ I1 < 8 * T.length := by omega
        generalize hN : 8 * T.length = N at *
        clear hN
        have hd1 : decide ((n : Int) < 15) = true := by simp; omega
        have hd2 : decide ((I1 : Int) < (N : Int)) = false := by simp; omega
        clear hlen
        go_wp2_with fail
        go_quiet (fail)
        go_wp2
        go_ret
        exact rsigned_none HEND.out (HX.out _).1 (hO.trans (HX.out _).2)
      · have hd1 : decide ((n : Int) < 15) = false := by simp; omega
        clear hlen
        go_wp2_with fail
        go_quiet (fail)
        go_wp2
        go_ret
        exact rsigned_none HEND.out (HX.out _).1 (hO.trans (HX.out _).2)

end Go.Proofs.Ythceefhnmjjddaa
