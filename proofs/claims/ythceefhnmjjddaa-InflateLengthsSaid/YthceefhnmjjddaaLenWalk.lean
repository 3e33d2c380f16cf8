/-
  'Lengths': the code words of lengths, by a contract.
-/
import Derived.Test.YthceefhnmjjddaaHas
import Derived.Test.YthceefhnmjjddaaSignSpec
import Derived.Test.YthceefhnmjjddaaOwnParts
namespace Go.Proofs.Ythceefhnmjjddaa
open Go.RowKit

def nx (f : Nat → Nat) : Array Value := tabCells f (.int .i64 (f 16 : Nat))
theorem nx_get (f : Nat → Nat) (i : Nat) (h : i < 17) : (nx f)[i]? = some (.int .i64 (f i : Nat)) := by
  by_cases h16 : i = 16
  · subst h16; rfl
  · exact tab_get f _ i (by omega)
theorem nx_set (f : Nat → Nat) (i x : Nat) (h : i < 17) : (nx f).setIfInBounds i (.int .i64 (x : Nat)) = nx (fun n => if n = i then x else f n) := by
  rcases i with _ | _ | _ | _ | _ | _ | _ | _ | _ | _ | _ | _ | _ | _ | _ | _ | _ | i <;> first | rfl | omega
theorem info40 : (Try.prog.info? 40).map (fun i => (i.zero, i.size, i.bytes)) = some (some (.int .u16 0), 1, 2) := by kernel_rfl

/-- The numbers that are given out, as far as the first i. -/
def outL (L : List Nat) (j : Nat) : Nat := if L.getD j 0 = 0 then 0 else codeN L j
def rowO (L : List Nat) (i : Nat) : List Nat := (List.range L.length).map fun j => if j < i then outL L j else 0
def shorts (l : List Nat) : List Value := l.map fun n => .int .u16 (n : Nat)
theorem rowO_length (L : List Nat) (i : Nat) : (rowO L i).length = L.length := by simp [rowO]
theorem shorts_length (l : List Nat) : (shorts l).length = l.length := by simp [shorts]
theorem rowO_set (L : List Nat) (i : Nat) : (shorts (rowO L i)).toArray.setIfInBounds i (.int .u16 (outL L i : Nat)) = (shorts (rowO L (i + 1))).toArray := by
  apply Array.ext'
  rw [Array.toList_setIfInBounds]
  show (shorts (rowO L i)).set i _ = shorts (rowO L (i + 1))
  apply List.ext_getElem
  · simp [shorts, rowO]
  · intro j h1 h2
    have hj : j < L.length := by simpa [shorts, rowO] using h2
    rw [List.getElem_set]
    simp only [shorts, rowO, List.getElem_map, List.getElem_range]
    by_cases e : i = j
    · subst e; rw [if_pos rfl, if_pos (by omega)]
    · rw [if_neg e]
      by_cases h3 : j < i
      · rw [if_pos h3, if_pos (by omega)]
      · rw [if_neg h3, if_neg (by omega)]
theorem rowO_skip (L : List Nat) (i : Nat) (h : L.getD i 0 = 0) : rowO L i = rowO L (i + 1) := by
  apply List.ext_getElem
  · simp [rowO]
  · intro j h1 h2
    simp only [rowO, List.getElem_map, List.getElem_range]
    by_cases h3 : j < i
    · rw [if_pos h3, if_pos (by omega)]
    · by_cases e : j = i
      · subst e; rw [if_neg h3, if_pos (by omega)]; unfold outL; rw [if_pos h]
      · rw [if_neg h3, if_neg (by omega)]
theorem rowO_start (L : List Nat) : shorts (rowO L 0) = List.replicate L.length (.int .u16 0) := by
  apply List.ext_getElem
  · simp [shorts, rowO]
  · intro j h1 h2
    simp [shorts, rowO]

/-- The next number of each length, ere the i-th sign. -/
def nextF (L : List Nat) (i k : Nat) : Nat := 2 * beh L (k - 1) + if k = 0 then 0 else (L.take i).count k
theorem nextF_code (L : List Nat) (i : Nat) (h : L.getD i 0 ≠ 0) : nextF L i (L.getD i 0) = outL L i := by
  unfold nextF outL codeN
  rw [if_neg h, if_neg h]
theorem nextF_step (L : List Nat) (i : Nat) (hi : i < L.length) (h : L.getD i 0 ≠ 0) : nx (fun n => if n = L.getD i 0 then nextF L i (L.getD i 0) + 1 else nextF L i n) = nx (nextF L (i + 1)) := by
  congr 1
  funext k
  have hc := count_snoc L i k hi
  unfold nextF
  by_cases hk : k = L.getD i 0
  · subst hk
    rw [if_pos rfl, if_neg h, if_neg h, hc, if_pos rfl]
    omega
  · rw [if_neg hk, hc, if_neg (show ¬ L.getD i 0 = k from fun e => hk e.symm), Nat.add_zero]
theorem nextF_skip (L : List Nat) (i : Nat) (hi : i < L.length) (h : L.getD i 0 = 0) : nextF L i = nextF L (i + 1) := by
  funext k
  have hc := count_snoc L i k hi
  unfold nextF
  by_cases hk : k = 0
  · rw [if_pos hk, if_pos hk]
  · rw [if_neg hk, if_neg hk, hc, if_neg (by omega)]
    rfl
/-- The first number of each length, as far as n. -/
def firstF (L : List Nat) (n k : Nat) : Nat := if k ≤ n then 2 * beh L (k - 1) else 0
theorem firstF_step (L : List Nat) (n : Nat) (hn : 1 ≤ n) : nx (fun k => if k = n + 1 then 2 * (2 * beh L (n - 1) + L.count n) else firstF L n k) = nx (firstF L (n + 1)) := by
  congr 1
  funext k
  unfold firstF
  by_cases hk : k = n + 1
  · subst hk
    rw [if_pos rfl, if_pos (Nat.le_refl _)]
    obtain ⟨m, rfl⟩ : ∃ m, n = m + 1 := ⟨n - 1, by omega⟩
    rfl
  · rw [if_neg hk]
    by_cases h2 : k ≤ n
    · rw [if_pos h2, if_pos (by omega)]
    · rw [if_neg h2, if_neg (by omega)]
theorem firstF_start (L : List Nat) : nx (firstF L 1) = #[.int .i64 0, .int .i64 0, .int .i64 0, .int .i64 0, .int .i64 0, .int .i64 0, .int .i64 0, .int .i64 0, .int .i64 0, .int .i64 0, .int .i64 0, .int .i64 0, .int .i64 0, .int .i64 0, .int .i64 0, .int .i64 0, .int .i64 0] := rfl
theorem firstF_end (L : List Nat) : nx (firstF L 16) = nx (nextF L 0) := by
  have h : ∀ k, k ≤ 16 → firstF L 16 k = nextF L 0 k := by
    intro k hk
    unfold firstF nextF
    rw [if_pos hk]
    simp
  unfold nx tabCells
  rw [h 0 (by omega), h 1 (by omega), h 2 (by omega), h 3 (by omega), h 4 (by omega), h 5 (by omega), h 6 (by omega), h 7 (by omega), h 8 (by omega), h 9 (by omega), h 10 (by omega), h 11 (by omega), h 12 (by omega), h 13 (by omega), h 14 (by omega), h 15 (by omega), h 16 (by omega)]
theorem beh_le {L : List Nat} (hr : right L = true) (n : Nat) (hn : n ≤ 15) : beh L n ≤ 32768 := by
  have h1 := fits_step (fits_down 15 hn (right_fits hr))
  have h2 : 2 ^ n ≤ 2 ^ 15 := Nat.pow_le_pow_right (by omega) hn
  omega
theorem outL_lt {L : List Nat} (hr : right L = true) (i : Nat) (hi : i < L.length) (h15 : L.getD i 0 ≤ 15) : outL L i < 32768 := by
  unfold outL
  split
  · omega
  · rename_i h
    obtain ⟨m, hm⟩ : ∃ m, L.getD i 0 = m + 1 := ⟨L.getD i 0 - 1, by omega⟩
    have h1 := (codeN_lt hi hm).2
    have h2 := beh_le hr (m + 1) (by omega)
    omega

theorem NumsAt.ints {w : World} {A : Option Addr} {L : List Nat} (h : NumsAt w A L) : IntsL w A (L.map fun n : Nat => (n : Int)) := by
  rcases h with h | ⟨b, o, e, hb, hc⟩
  · exact .inl (by rw [h]; rfl)
  · refine .inr ⟨b, o, e, hb, fun i hi => ?_⟩
    rw [List.length_map] at hi
    rw [hc i hi]
    simp [List.getD_eq_getElem?_getD, hi]
theorem nums_ok {L : List Nat} (h : ∀ x ∈ L, x ≤ 15) : (L.map fun n : Nat => (n : Int)).any badZ = false := by
  rw [List.any_eq_false]
  intro x hx
  obtain ⟨n, hn, rfl⟩ := List.mem_map.1 hx
  have := h n hn
  simp [badZ]
  omega

set_option maxHeartbeats 1000000 in
set_option maxRecDepth 100000 in
theorem len_far (A : Option Addr) (n c : Nat) (zs : List Int) (w : World) (h : IntsL w A zs) (hn : n = zs.length) (hm : n ≤ 65536) (hbad : 288 < n ∨ zs.any badZ = true) :
    Calls Try.prog 13 #[.slice A n c] w fun e w' => e = .returned (.tuple #[.slice none 0 0, .int .i64 13]) ∧ Below w.heap.size w w' := by
  by_cases hl : 288 < n
  · have hlI : (288 : Int) < (n : Int) := by omega
    go_enter Try.func13, Try.ntmps13
    go_wp2
    go_ret2
    exact ⟨rfl, Below.refl _ _⟩
  · have hlI : (n : Int) ≤ 288 := by omega
    have hd : decide ((288 : Int) < (n : Int)) = false := by simp; omega
    have HI := Lib.hid (has_any A n c zs w h hn hm)
    rw [hbad.resolve_left hl] at HI
    clear h hn hm hbad hl
    go_enter Try.func13, Try.ntmps13
    go_wp2_with fail
    refine HI.out.mono ?_
    rintro e w5 ⟨rfl, rfl⟩
    go_wp2
    go_ret2
    exact ⟨rfl, Below.refl _ _⟩

set_option maxHeartbeats 1000000 in
set_option maxRecDepth 100000 in
theorem len_form (A : Option Addr) (c : Nat) (L : List Nat) (w : World) (h : NumsAt w A L) (hl : L.length ≤ 288) (h15 : ∀ x ∈ L, x ≤ 15) (hr : right L = false) :
    Calls Try.prog 13 #[.slice A L.length c] w fun e w' => e = .returned (.tuple #[.slice none 0 0, .int .i64 2]) ∧ Below w.heap.size w w' := by
  have hlI : (L.length : Int) ≤ 288 := by omega
  have hd : decide ((288 : Int) < (L.length : Int)) = false := by simp; omega
  have HI := Lib.hid (has_any A L.length c _ w h.ints (by simp) (by omega))
  rw [nums_ok h15] at HI
  have HT := Lib.hid (table_any A c L w h (by omega) h15)
  clear h15 h hl
  go_enter Try.func13, Try.ntmps13
  go_wp2_with fail
  refine HI.out.mono ?_
  rintro e w5 ⟨hw5, rfl⟩
  obtain rfl := hw5.symm
  go_wp2_with fail
  refine HT.out.mono ?_
  rintro e w6 ⟨v, rfl, ⟨At, nt, ct, rfl⟩, _, hb6⟩
  rw [hr]
  clear HI HT hr
  go_wp2_with (refine wpList_store_row rfl 55 (.tmp 4) (.tmp 21) rfl w6.heap.size (tabCells (fun n => L.count n) (.slice At nt ct)) rfl rfl 55 Z17 (heap_alloc_new w6 (.cells Z17 55)) ti55 rfl (tab_one _ rfl) ?_)
  go_ret2
  exact ⟨rfl, below_row (hb6.alloc hb6.size _) hb6.size _⟩

set_option maxHeartbeats 1000000 in
set_option maxRecDepth 100000 in
theorem len_words (A : Option Addr) (c : Nat) (L : List Nat) (w : World) (h : NumsAt w A L) (hl : L.length ≤ 288) (h15 : ∀ x ∈ L, x ≤ 15) (hr : right L = true) :
    Calls Try.prog 13 #[.slice A L.length c] w fun e w' => ∃ g, e = .returned (.tuple #[.slice (some ⟨g, 0, none⟩) L.length L.length, .int .i64 0]) ∧ w'.heap[g]? = some (.cells (shorts (rowO L L.length)).toArray 40 (0, 0)) ∧ Below w.heap.size w w' := by
  obtain ⟨i0, hi, hz0, hz1, hz2⟩ := info_parts info40
  have hlI : (L.length : Int) ≤ 288 := by omega
  have hd : decide ((288 : Int) < (L.length : Int)) = false := by simp; omega
  have HI := Lib.hid (has_any A L.length c _ w h.ints (by simp) (by omega))
  rw [nums_ok h15] at HI
  have HT := Lib.hid (table_any A c L w h (by omega) h15)
  have H15 := Lib.hid h15
  have HR := Lib.hid hr
  clear h15
  go_enter Try.func13, Try.ntmps13
  go_wp2_with fail
  refine HI.out.mono ?_
  rintro e w5 ⟨hw5, rfl⟩
  obtain rfl := hw5.symm
  go_wp2_with fail
  refine HT.out.mono ?_
  rintro e w6 ⟨v, rfl, ⟨At, nt, ct, rfl⟩, _, hb6⟩
  rw [hr]
  clear HI HT hr
  have hz6 := hb6.size
  have hbT : Blk (World.setRow (w6.alloc (.cells Z17 55)) w6.heap.size (tabCells (fun n => L.count n) (.slice At nt ct))) w6.heap.size 55 (tabCells (fun n => L.count n) (.slice At nt ct)) := (Blk.new w6 55 Z17).row_ _
  have hb7 := below_row (hb6.alloc hb6.size (.cells Z17 55)) hb6.size (tabCells (fun n => L.count n) (.slice At nt ct))
  obtain ⟨w7, hw7⟩ : ∃ x, x = World.setRow (w6.alloc (.cells Z17 55)) w6.heap.size (tabCells (fun n => L.count n) (.slice At nt ct)) := ⟨_, rfl⟩
  have hz7 : w7.heap.size = w6.heap.size + 1 := by rw [hw7]; simp
  have HW7 := Lib.hid hw7
  have HZ7 := Lib.hid hz7
  clear hz7
  rw [← hw7] at hbT hb7
  clear hw7
  go_wp2_with (refine wpList_store_row rfl 55 (.tmp 4) (.tmp 21) rfl w6.heap.size (tabCells (fun n => L.count n) (.slice At nt ct)) rfl rfl 55 Z17 (heap_alloc_new w6 (.cells Z17 55)) ti55 rfl (tab_one _ rfl) ?_; rw [← HW7.out])
  go_wp2_with fail
  go_loopw [7] (fun i wr => ∃ n : Nat, i = .int .i64 (n : Nat) ∧ 1 ≤ n ∧ n ≤ 16 ∧ Blk wr w7.heap.size 70 (nx (firstF L n)) ∧ Blk wr w6.heap.size 55 (tabCells (fun n => L.count n) (.slice At nt ct)) ∧ Below w.heap.size w wr) (fun i _ => 16 - (intOf i).toNat)
  case atStart => exact ⟨1, rfl, by omega, by omega, by rw [firstF_start]; exact Blk.new w7 70 _, hbT.alloc _, hb7.alloc hb7.size _⟩
  case round =>
    clear hbT hb7
    obtain ⟨n, rfl, hn1, hn, hbN, hbT, hbr⟩ := hrel
    by_cases hlt : n < 16
    · have hc1 := hbN.cell n
      rw [nx_get _ n (by omega)] at hc1
      have hc2 := hbT.cell n
      rw [tab_get _ _ n (by omega)] at hc2
      have hc3 := hbN.cell (n + 1)
      rw [nx_get _ (n + 1) (by omega)] at hc3
      have hf3 := hbN.frozen (n + 1)
      have hset := hbN.set_ (n + 1) (.int .i64 ((2 * (2 * beh L (n - 1) + L.count n) : Nat) : Int))
      rw [nx_set _ (n + 1) _ (by omega), firstF_step L n hn1] at hset
      have e1 : firstF L n n = 2 * beh L (n - 1) := by unfold firstF; rw [if_pos (Nat.le_refl _)]
      have hbeh : beh L n ≤ 32768 := beh_le HR.out n (by omega)
      have e2 : beh L n = 2 * beh L (n - 1) + L.count n := by
        obtain ⟨m, rfl⟩ : ∃ m, n = m + 1 := ⟨n - 1, by omega⟩
        rfl
      rw [e1] at hc1
      rw [← e2] at hset
      obtain ⟨x, hx⟩ : ∃ x, 2 * beh L (n - 1) = x := ⟨_, rfl⟩
      obtain ⟨y, hy⟩ : ∃ y, L.count n = y := ⟨_, rfl⟩
      obtain ⟨z, hz⟩ : ∃ z, beh L n = z := ⟨_, rfl⟩
      generalize firstF L n (n + 1) = old at hc3
      rw [hx] at hc1
      rw [hy] at hc2
      rw [hz] at hset hbeh
      have hsum : (x : Int) + (y : Int) = (z : Int) := by omega
      have hzI : (z : Int) ≤ 32768 := by omega
      have HSET := Lib.hid ((hset.drewN 1 : Blk (World.setCell wr ⟨w7.heap.size, n + 1, none⟩ (.int .i64 ((2 * z : Nat) : Int))) _ _ _))
      clear hx hy hz e1 e2 hset
      go_wp2_with fail
      go_region
      all_goals
        go_wp2
        go_roundw
        case rel =>
          rw [show (z : Int) * 2 = ((2 * z : Nat) : Int) by omega]
          exact ⟨n + 1, by go_num, by omega, by omega, HSET.out, (hbT.far (by have := HZ7.out; simp; omega) _).drewN 1, (hbr.setCell (by have := HZ7.out; simp; omega) _).drew⟩
        case measure => simp [intOf]; omega
    · obtain rfl : n = 16 := by omega
      obtain ⟨wo, rfl⟩ : ∃ wo : World, wo = wr := ⟨_, rfl⟩
      rw [firstF_end] at hbN
      clear hbT
      have hzr := hbr.size
      go_wp2_with (refine wpList_make_full _ rfl (.tmp 42) (.tmp 42) 34 rfl wo.heap.size 40 i0 (.int .u16 0) 1 Try.underlying34 hi hz0 hz1 .i64 .i64 _ _ L.length rfl rfl rfl rfl (by rw [hz2]; omega) (by unfold maxLen; omega) (Nat.le_refl _) ?_; intro w8 hown8 hgrow8)
      have hb8 := hbr.grown hgrow8 hbr.size (by simp)
      have hrow8 : Blk w8 wo.heap.size 40 (shorts (rowO L 0)).toArray := own_full hown8 _ (by simp only [Value.cells, Nat.mul_one]; rw [toList_madeCells_one, rowO_start])
      have hbN8 := hbN.grown hgrow8 (by simp)
      have hne : wo.heap.size ≠ w7.heap.size := hrow8.ne_ hbN8 (by decide)
      clear hown8 hgrow8 hbN hbr
      go_wp2_with fail
      go_loopw [46] (fun i wx => ∃ k : Nat, i = .int .i64 (k : Nat) ∧ k ≤ L.length ∧ Blk wx w7.heap.size 70 (nx (nextF L k)) ∧ Blk wx wo.heap.size 40 (shorts (rowO L k)).toArray ∧ Below w.heap.size w wx) (fun i _ => L.length - (intOf i).toNat)
      case atStart => exact ⟨0, rfl, Nat.zero_le _, hbN8, hrow8, hb8⟩
      case round =>
        clear hbN8 hrow8 hb8
        obtain ⟨k, rfl, hk, hbN, hrow, hbx⟩ := hrel
        by_cases hlt : k < L.length
        · obtain ⟨b, o, rfl, hblt, hc⟩ := h.resolve_left (fun e => by subst e; simp at hlt)
          have hcell := (hbx.cell (p := ⟨b, o + k, none⟩) hblt).trans (hc k hlt)
          have HC := Lib.hid hc
          clear hc
          have hm15 : L.getD k 0 ≤ 15 := H15.out _ (by rw [List.getD_eq_getElem?_getD, List.getElem?_eq_getElem hlt]; exact List.getElem_mem _)
          by_cases h0 : L.getD k 0 = 0
          · rw [h0] at hcell
            rw [nextF_skip L k hlt h0] at hbN
            rw [rowO_skip L k h0] at hrow
            have HN := Lib.hid hbN
            have HRW := Lib.hid hrow
            clear hbN hrow h0 hm15
            go_wp2
            go_roundw
            case rel => exact ⟨k + 1, by go_num, by omega, HN.out, HRW.out, hbx⟩
            case measure => simp [intOf]; omega
          · have hq := nextF_code L k h0
            have hstep := nextF_step L k hlt h0
            have hq2 := outL_lt HR.out k hlt hm15
            obtain ⟨m, hm⟩ : ∃ m, L.getD k 0 = m := ⟨_, rfl⟩
            rw [hm] at hcell hm15 h0 hq hstep
            have hc1 := hbN.cell m
            rw [nx_get _ m (by omega), hq] at hc1
            have hset1 := hrow.set_ k (.int .u16 (outL L k : Nat))
            rw [rowO_set] at hset1
            have hN1 := hbN.far (p := ⟨wo.heap.size, k, none⟩) (fun e => hne e.symm) (.int .u16 (outL L k : Nat))
            have hold : wr.cell? ⟨wo.heap.size, k, none⟩ = some ((shorts (rowO L k))[k]'(by rw [shorts_length, rowO_length]; exact hlt)) := by
              rw [hrow.cell k, List.getElem?_toArray, List.getElem?_eq_getElem (by rw [shorts_length, rowO_length]; exact hlt)]
            generalize (shorts (rowO L k))[k]'_ = old at hold
            have hfo := hrow.frozen k
            obtain ⟨q, hqe⟩ : ∃ q, outL L k = q := ⟨_, rfl⟩
            rw [hqe] at hc1 hset1 hN1 hq hq2
            have hset2 := hN1.set_ m (.int .i64 ((q + 1 : Nat) : Int))
            rw [nx_set _ m _ (by omega), ← hq, hstep] at hset2
            have hset3 := hset1.far (p := ⟨w7.heap.size, m, none⟩) hne (.int .i64 ((q + 1 : Nat) : Int))
            have hc2 := hN1.cell m
            rw [nx_get _ m (by omega), hq] at hc2
            have hf2 := hN1.frozen m
            have hmI : (m : Int) ≤ 15 := by omega
            have hmI0 : (0 : Int) < (m : Int) := by omega
            have hqI : (q : Int) ≤ 32767 := by omega
            rw [hq] at hset2
            have HS2 := Lib.hid hset2
            have HS3 := Lib.hid hset3
            have HNE := Lib.hid hne
            clear hset1 hset2 hset3 hN1 hq hq2 hstep hm hqe h0 hm15 hbN hrow
            go_wp2
            go_roundw
            case rel => exact ⟨k + 1, by go_num, by omega, HS2.out, HS3.out, (hbx.setCell (by simp; omega) _).setCell (by have := HZ7.out; simp; omega) _⟩
            case measure => simp [intOf]; omega
        · obtain rfl : k = L.length := by omega
          go_wp2
          go_ret2
          exact ⟨wo.heap.size, rfl, hrow, hbx⟩

end Go.Proofs.Ythceefhnmjjddaa
