/-
  The document's Words, by a contract.
-/
import Derived.Test.YthceefhnmjjddaaRefRead
import Derived.Test.YthceefhnmjjddaaWordSpec
namespace Go.Proofs.Ythceefhnmjjddaa
open Go.RowKit

abbrev strV (l : List UInt8) : Value := .string ⟨l.toArray⟩
def textsV (ws : List (List UInt8)) : List Value := ws.map strV
theorem textsV_length (ws : List (List UInt8)) : (textsV ws).length = ws.length := by simp [textsV]
theorem textsV_set (ws : List (List UInt8)) (i : Nat) (l : List UInt8) : (textsV ws).toArray.setIfInBounds i (strV l) = (textsV (ws.set i l)).toArray := by
  apply Array.ext'
  simp [textsV, List.map_set]
theorem info9 : (Try.prog.info? 9).map (fun i => (i.zero, i.size, i.bytes)) = some (some (.string ⟨#[]⟩), 1, 16) := by kernel_rfl

/-- What Words gives. -/
def Worded (L : List Nat) (w : World) (e : Ending) (w' : World) : Prop :=
  ∃ v, e = .returned (.tuple #[v, .bool (right L)]) ∧ Below w.heap.size w w' ∧ (right L = true → ∃ g, v = .slice (some ⟨g, 0, none⟩) L.length L.length ∧ w.heap.size ≤ g ∧ w'.heap[g]? = some (.cells (textsV (wordsL L)).toArray 9 (0, 0)))
def onesTo (L : List Nat) (k : Nat) : Nat := if k = 1 then 0 else L.count 1
def onesIn (L : List Nat) (k j : Nat) : Nat := if k = 1 then (L.take j).count 1 else L.count 1
def cntIn (L : List Nat) (k j : Nat) : Nat := (L.take j).count k
/-- Words' first loop ere length n. -/
def WordsRel (L : List Nat) (w : World) (g : Nat) (c u o n : Value) (wr : World) : Prop :=
  ∃ k : Nat, n = .int .i64 (k : Nat) ∧ 1 ≤ k ∧ k ≤ 16 ∧ c = .int .i64 (beh L (k - 1) : Nat) ∧ u = .int .i64 (usedTo L (k - 1) : Nat) ∧ o = .int .i64 (onesTo L k : Nat) ∧ fits L (k - 1) = true ∧
    wr.heap[g]? = some (.cells (textsV (rowW L k 0)).toArray 9 (0, 0)) ∧ Below w.heap.size w wr
/-- Its second loop, at length k, ere the i-th. -/
def SignsRel (L : List Nat) (w : World) (g k : Nat) (c u o i : Value) (wr : World) : Prop :=
  ∃ j c1 u1 o1 : Nat, i = .int .i64 (j : Nat) ∧ j ≤ L.length ∧ c = .int .i64 (c1 : Nat) ∧ u = .int .i64 (u1 : Nat) ∧ o = .int .i64 (o1 : Nat) ∧ c1 = 2 * beh L (k - 1) + cntIn L k j ∧ c1 ≤ 2 ^ k ∧ u1 = usedTo L (k - 1) + cntIn L k j ∧ o1 = onesIn L k j ∧
    wr.heap[g]? = some (.cells (textsV (rowW L k j)).toArray 9 (0, 0)) ∧ Below w.heap.size w wr
theorem cntIn_zero (L : List Nat) (k : Nat) : cntIn L k 0 = 0 := by simp [cntIn]
theorem cntIn_all (L : List Nat) (k : Nat) : cntIn L k L.length = L.count k := by simp [cntIn]
theorem onesIn_zero (L : List Nat) (k : Nat) : onesIn L k 0 = onesTo L k := by unfold onesIn onesTo; simp
theorem onesIn_all (L : List Nat) (k : Nat) (_hk : 1 ≤ k) : onesIn L k L.length = onesTo L (k + 1) := by
  unfold onesIn onesTo
  rw [List.take_length, if_neg (show ¬ k + 1 = 1 by omega)]
  split <;> rfl
theorem usedTo_le (L : List Nat) (n : Nat) : usedTo L n ≤ L.length := List.countP_le_length
theorem pow_le15 {k : Nat} (h : k ≤ 15) : 2 ^ k ≤ 32768 := Nat.le_trans (Nat.pow_le_pow_right (by omega) h) (by decide)
theorem signs_start {L : List Nat} {w wr : World} {g k : Nat} {c : Int} (hk : k ≤ 15) (hk1 : 1 ≤ k) (hc : c = (2 * beh L (k - 1) : Nat)) (hf : fits L (k - 1) = true) (hrow : wr.heap[g]? = some (.cells (textsV (rowW L k 0)).toArray 9 (0, 0))) (hb : Below w.heap.size w wr) :
    SignsRel L w g k (.int .i64 c) (.int .i64 (usedTo L (k - 1) : Nat)) (.int .i64 (onesTo L k : Nat)) (.int .i64 0) wr := by
  subst hc
  have h1 := fits_step hf
  have h2 : 2 ^ k = 2 * 2 ^ (k - 1) := by rw [show k = k - 1 + 1 by omega, Nat.pow_succ, show k - 1 + 1 - 1 = k - 1 by omega]; omega
  exact ⟨0, _, _, _, rfl, by omega, rfl, rfl, rfl, by rw [cntIn_zero]; rfl, by omega, by rw [cntIn_zero]; rfl, (onesIn_zero L k).symm, hrow, hb⟩
theorem words_next {L : List Nat} {w wr : World} {g k c1 u1 o1 : Nat} (hk : k ≤ 15) (hk1 : 1 ≤ k) (hc : c1 = 2 * beh L (k - 1) + cntIn L k L.length) (hc2 : c1 ≤ 2 ^ k) (hu : u1 = usedTo L (k - 1) + cntIn L k L.length) (ho : o1 = onesIn L k L.length) (hf : fits L (k - 1) = true) (hrow : wr.heap[g]? = some (.cells (textsV (rowW L k L.length)).toArray 9 (0, 0))) (hb : Below w.heap.size w wr) :
    WordsRel L w g (.int .i64 (c1 : Nat)) (.int .i64 (u1 : Nat)) (.int .i64 (o1 : Nat)) (.int .i64 ((k : Int) + 1)) wr := by
  obtain ⟨n, rfl⟩ : ∃ n, k = n + 1 := ⟨k - 1, by omega⟩
  rw [cntIn_all] at hc hu
  have e : beh L (n + 1) = c1 := by rw [hc]; rfl
  refine ⟨n + 1 + 1, by go_num, by omega, by omega, ?_, ?_, ?_, ?_, ?_, hb⟩
  · show _ = Value.int .i64 (beh L (n + 1) : Nat); rw [e]
  · show _ = Value.int .i64 (usedTo L (n + 1) : Nat); rw [usedTo_succ, hu]; rfl
  · rw [ho, onesIn_all L (n + 1) hk1]
  · exact fits_succ hf (by rw [e]; exact hc2)
  · rw [← rowW_next]; exact hrow
theorem signs_skip {L : List Nat} {w wr : World} {g k j c1 u1 o1 : Nat} (hj : j < L.length) (hx : L.getD j 0 ≠ k) (hc : c1 = 2 * beh L (k - 1) + cntIn L k j) (hc2 : c1 ≤ 2 ^ k) (hu : u1 = usedTo L (k - 1) + cntIn L k j) (ho : o1 = onesIn L k j) (hrow : wr.heap[g]? = some (.cells (textsV (rowW L k j)).toArray 9 (0, 0))) (hb : Below w.heap.size w wr) :
    SignsRel L w g k (.int .i64 (c1 : Nat)) (.int .i64 (u1 : Nat)) (.int .i64 (o1 : Nat)) (.int .i64 ((j : Int) + 1)) wr := by
  have e : cntIn L k (j + 1) = cntIn L k j := by unfold cntIn; rw [count_snoc L j k hj, if_neg hx]; rfl
  have e2 : onesIn L k (j + 1) = onesIn L k j := by
    unfold onesIn
    by_cases h : k = 1
    · rw [if_pos h, if_pos h, count_snoc L j 1 hj, if_neg (by omega)]; rfl
    · rw [if_neg h, if_neg h]
  exact ⟨j + 1, c1, u1, o1, by go_num, by omega, rfl, rfl, rfl, by rw [e]; exact hc, hc2, by rw [e]; exact hu, by rw [e2]; exact ho, by rw [← rowW_skip L k j hx]; exact hrow, hb⟩
theorem signs_hit {L : List Nat} {w wr : World} {g k j c1 u1 o1 o2 : Nat} (hj : j < L.length) (hx : L.getD j 0 = k) (hc : c1 = 2 * beh L (k - 1) + cntIn L k j) (hc2 : c1 < 2 ^ k) (hu : u1 = usedTo L (k - 1) + cntIn L k j) (ho : o1 = onesIn L k j) (ho2 : o2 = if k = 1 then o1 + 1 else o1) {z : Int} (hz : z = (o2 : Nat)) (hrow : wr.heap[g]? = some (.cells (textsV ((rowW L k j).set j (binL k c1))).toArray 9 (0, 0))) (hb : Below w.heap.size w wr) :
    SignsRel L w g k (.int .i64 ((c1 : Int) + 1)) (.int .i64 ((u1 : Int) + 1)) (.int .i64 z) (.int .i64 ((j : Int) + 1)) wr := by
  subst hz
  have e : cntIn L k (j + 1) = cntIn L k j + 1 := by unfold cntIn; rw [count_snoc L j k hj, if_pos hx]
  have e2 : o2 = onesIn L k (j + 1) := by
    rw [ho2, ho]
    unfold onesIn
    by_cases h : k = 1
    · rw [if_pos h, if_pos h, if_pos h, count_snoc L j 1 hj, if_pos (by omega)]
    · rw [if_neg h, if_neg h, if_neg h]
  have e3 : wordL L j = binL k c1 := by unfold wordL codeN; rw [hx, hc]; rfl
  exact ⟨j + 1, c1 + 1, u1 + 1, o2, by go_num, by omega, by go_num, by go_num, rfl, by rw [e]; omega, by omega, by rw [e]; omega, e2, by rw [← rowW_set L k j hx, e3]; exact hrow, hb⟩
theorem words_over {L : List Nat} {k j c1 : Nat} (hk : k ≤ 15) (hk1 : 1 ≤ k) (hj : j < L.length) (hx : L.getD j 0 = k) (hc : c1 = 2 * beh L (k - 1) + cntIn L k j) (h : 2 ^ k ≤ c1) : right L = false := by
  obtain ⟨n, rfl⟩ : ∃ n, k = n + 1 := ⟨k - 1, by omega⟩
  refine right_over hk ?_
  have h1 := count_snoc L j (n + 1) hj
  rw [if_pos hx] at h1
  have h2 := count_take_le L (j + 1) (n + 1)
  have h3 : cntIn L (n + 1) j = (L.take j).count (n + 1) := rfl
  have h4 : beh L (n + 1) = 2 * beh L n + L.count (n + 1) := rfl
  have h5 : n + 1 - 1 = n := by omega
  rw [h5] at hc
  omega
theorem worded_no {L : List Nat} {w w' : World} (hr : right L = false) (hb : Below w.heap.size w w') : Worded L w (.returned (.tuple #[.slice none 0 0, .bool false])) w' :=
  ⟨_, by rw [hr], hb, fun h => by rw [hr] at h; cases h⟩
theorem wraps_nat (n : Int) (h₀ : 0 ≤ n) (h₁ : n < 2 ^ 62) : IntKind.i64.wrap n = n := by rw [IntKind.wrap_i64]; omega
theorem and1_i64 (n : Nat) (h : n < 65536) : bits .and .i64 (n : Int) 1 = ((n % 2 : Nat) : Int) := by
  rw [show (1 : Int) = ((1 : Nat) : Int) from rfl, (bits_nat .i64 62 (by decide) wraps_nat n 1 (by omega) (by omega)).1, Nat.and_one_is_mod]
theorem slice_0 (W : World) : (Instr.slice 9 (.string ⟨#[48, 49]⟩) (some (.int .i64 0)) (some (.int .i64 1)) none).run Try.prog W = .ok (.string ⟨#[48]⟩) W := by kernel_rfl
theorem slice_1 (W : World) : (Instr.slice 9 (.string ⟨#[48, 49]⟩) (some (.int .i64 1)) (some (.int .i64 2)) none).run Try.prog W = .ok (.string ⟨#[49]⟩) W := by kernel_rfl
theorem cat_one (S : List UInt8) (x : UInt8) (h : S.length ≤ 100) (W : World) : (Op.stringOp .add ⟨S.toArray⟩ ⟨#[x]⟩).run Try.prog W = .ok (.string ⟨(S ++ [x]).toArray⟩) W :=
  run_string_add_lists W S [x] (by omega) (by simp)
theorem bin_next {k p c : Nat} {S : List UInt8} {x y : UInt8} (h : binL (k - (p + 1) + 1) (c / 2 ^ p) = S ++ [x]) (hp : p + 1 ≤ k) (hx : y = x) : Value.string ⟨(S ++ [y]).toArray⟩ = .string ⟨(binL (k - p) (c / 2 ^ p)).toArray⟩ := by
  subst hx
  rw [← h, show k - (p + 1) + 1 = k - p by omega]
theorem worded_any {L : List Nat} {w w' : World} {b : Bool} (hr : right L = b) (hrow : w'.heap[w.heap.size]? = some (.cells (textsV (wordsL L)).toArray 9 (0, 0))) (hb : Below w.heap.size w w') : Worded L w (.returned (.tuple #[.slice (some ⟨w.heap.size, 0, none⟩) L.length L.length, .bool b])) w' :=
  ⟨_, by rw [hr], hb, fun _ => ⟨_, rfl, Nat.le_refl _, hrow⟩⟩
theorem beq_yes {a : Nat} {b : Nat} (h : a = b) : ((a : Int) == (b : Int)) = true := by subst h; simp
theorem beq_no {a : Nat} {b : Nat} (h : a ≠ b) : ((a : Int) == (b : Int)) = false := by simp; omega
theorem digit_text (c q : Nat) : (48 + c / 2 ^ q % 2).toUInt8 = if c / 2 ^ q % 2 = 0 then 48 else 49 := by
  have : c / 2 ^ q % 2 = 0 ∨ c / 2 ^ q % 2 = 1 := by omega
  rcases this with h | h <;> rw [h] <;> rfl

set_option maxHeartbeats 2000000 in
set_option maxRecDepth 100000 in
theorem words_any (A : Option Addr) (cap : Nat) (L : List Nat) (w : World) (h : NumsAt w A L) (hL : L.length ≤ 65536) (h15 : ∀ x ∈ L, x ≤ 15) :
    Calls Try.prog 14 #[.slice A L.length cap] w (Worded L w) := by
  obtain ⟨i0, hi, hz0, hz1, hz2⟩ := info_parts info9
  have H15 := Lib.hid h15
  clear h15
  go_enter Try.func14, Try.ntmps14
  go_wp2_with (refine wpList_make_full _ rfl (.tmp 15) (.tmp 15) 37 rfl w.heap.size 9 i0 (.string ⟨#[]⟩) 1 Try.underlying37 hi hz0 hz1 .i64 .i64 _ _ L.length rfl rfl rfl rfl (by rw [hz2]; omega) (by unfold maxLen; omega) (Nat.le_refl _) ?_; intro w2 hown2 hgrow2)
  have hb2 := (Below.refl w.heap.size w).grown hgrow2 (Nat.le_refl _) (by simp)
  have hrow2 : w2.heap[w.heap.size]? = some (.cells (textsV (rowW L 1 0)).toArray 9 (0, 0)) := own_full hown2 _ (by simp only [Value.cells, Nat.mul_one]; rw [toList_madeCells_one, rowW_start]; simp [textsV, strV])
  clear hown2 hgrow2
  go_wp2
  go_loopw [5, 6, 7, 8] (fun c u o n wr => WordsRel L w w.heap.size c u o n wr) (fun _ _ _ n _ => 16 - (intOf n).toNat)
  case atStart => exact ⟨1, rfl, by omega, by omega, rfl, by rw [usedTo_zero]; rfl, rfl, rfl, hrow2, hb2⟩
  case round =>
    clear hrow2 hb2
    obtain ⟨k, rfl, hk1, hk2, rfl, rfl, rfl, hf, hrow, hbel⟩ := hrel
    by_cases hlt : k ≤ 15
    · obtain ⟨wo, rfl⟩ : ∃ wo : World, wo = wr := ⟨_, rfl⟩
      have hbeh := fits_step hf
      have hp15 := pow_le15 (show k - 1 ≤ 15 by omega)
      have hst := fun c hc => signs_start (c := c) hlt hk1 hc hf hrow hbel
      have HST := Lib.hid hst
      have HF := Lib.hid hf
      generalize hc0 : beh L (k - 1) = c0 at *
      have hul := usedTo_le L (k - 1)
      have hol : onesTo L k ≤ L.length := by unfold onesTo; split; omega; exact List.count_le_length
      generalize usedTo L (k - 1) = u0 at *
      generalize onesTo L k = o0 at *
      have hc0b : c0 ≤ 32768 := by omega
      have hkI : (k : Int) ≤ 15 := by omega
      have HC0 := Lib.hid hc0
      clear hc0 hst hf hrow
      go_wp2
      go_loopw [5, 6, 7, 25] (fun c u o i wr => SignsRel L w w.heap.size k c u o i wr) (fun _ _ _ i _ => L.length - (intOf i).toNat)
      case atStart => exact HST.out _ (by omega)
      case round =>
        clear hbel
        obtain ⟨j, c1, u1, o1, rfl, hj, rfl, rfl, rfl, hc1, hc2, hu1, ho1, hrow, hbel⟩ := hrel
        have HC1 := Lib.hid hc1
        have HC2 := Lib.hid hc2
        have HU1 := Lib.hid hu1
        have HO1 := Lib.hid ho1
        have hp := pow_le15 hlt
        have hc3 : c1 ≤ 32768 := by omega
        have hu3 : u1 ≤ 2 * L.length := by
          have := count_take_le L j k
          have := usedTo_le L (k - 1)
          have h2 : L.count k ≤ L.length := List.count_le_length
          have h3 : cntIn L k j = (L.take j).count k := rfl
          omega
        have ho3 : o1 ≤ L.length := by
          rw [ho1]; unfold onesIn
          split
          · exact Nat.le_trans (count_take_le L j 1) List.count_le_length
          · exact List.count_le_length
        clear hc1 hc2 hu1 ho1 hp
        by_cases hjl : j < L.length
        · rcases h with rfl | ⟨b, o, rfl, hb, hc⟩
          · simp at hjl
          · have hcell := (hbel.cell (p := ⟨b, o + j, none⟩) hb).trans (hc j hjl)
            have hskip := fun hx => signs_skip (wr := wr) hjl hx HC1.out HC2.out HU1.out HO1.out hrow hbel
            have HSK := Lib.hid hskip
            have HX0 : Hid (∀ x, L.getD j 0 = x → L.getD j 0 = x) := fun _ h => h
            generalize hx : L.getD j 0 = x at hcell
            have HX := Lib.hid hx
            clear hskip hx
            by_cases hxk : x = k
            · have HXK := Lib.hid (HX.out.trans hxk)
              have hxb : ((x : Int) != (k : Int)) = false := by simp; omega
              obtain ⟨P, hP⟩ : ∃ P : Nat, 2 ^ k = P := ⟨_, rfl⟩
              have hpw : wrap64 (2 ^ k) = (P : Int) := by
                have e : (2 : Int) ^ k = ((2 ^ k : Nat) : Int) := by simp
                have := pow_le15 hlt
                rw [e, hP, IntWalk.wrap64_in _ (by omega)]
              have HP := Lib.hid hP
              clear hxk hP
              by_cases hk1' : k = 1
              · have hkb : ((k : Int) == 1) = true := by simp; omega
                have HK1 := Lib.hid hk1'
                clear hk1'
                by_cases hov : P ≤ c1
                · have HOV := Lib.hid (words_over hlt hk1 hjl HXK.out HC1.out (by have := HP.out; omega))
                  go_wp2_with fail
                  go_ret2
                  exact worded_no HOV.out hbel
                · have hovb : decide (P ≤ c1) = false := by simp; omega
                  go_wp2_with fail
                  clear hpw
                  obtain ⟨wq, hwq⟩ : ∃ wq : World, wq = wr := ⟨_, rfl⟩
                  have HWQ := Lib.hid hwq
                  clear hwq
                  go_loopw [11, 12] (fun s i wx => ∃ q nq : Nat, q ≤ k ∧ i = .int .i64 ((q : Int) - 1) ∧ s = .string ⟨(binL (k - q) (c1 / 2 ^ q)).toArray⟩ ∧ wx = wq.drewN nq) (fun _ i _ => (intOf i + 1).toNat)
                  case atStart => exact ⟨k, 0, by omega, rfl, by rw [Nat.sub_self]; rfl, HWQ.out.symm⟩
                  case round =>
                    obtain ⟨q, nq, hq, rfl, rfl, rfl⟩ := hrel
                    rcases q with _ | p
                    · have hz : binL (k - 0) (c1 / 2 ^ 0) = binL k c1 := by simp
                      rw [hz]
                      have hrowq : (wq.drewN nq).heap[w.heap.size]? = some (.cells (textsV (rowW L k j)).toArray 9 (0, 0)) := by rw [HWQ.out]; exact hrow
                      have hbelq : Below w.heap.size w (wq.drewN nq) := by rw [HWQ.out]; exact below_drewN hbel nq
                      have hcellq := cell_of_row (wq.drewN nq) w.heap.size j _ _ _ hrowq
                      rw [List.getElem?_toArray, List.getElem?_eq_getElem (by rw [textsV_length, rowW_length]; exact hjl)] at hcellq
                      generalize (textsV (rowW L k j))[j]'_ = old at hcellq
                      have hfrq := frozen_of_row (wq.drewN nq) w.heap.size j _ _ hrowq
                      have hset := heap_setCell_same (wq.drewN nq) w.heap.size j _ 9 (strV (binL k c1)) hrowq
                      rw [textsV_set] at hset
                      have HSET := Lib.hid (signs_hit (z := (o1 : Int) + 1) (o2 := o1 + 1) hjl HXK.out HC1.out (by have := HP.out; omega) HU1.out HO1.out (if_pos HK1.out).symm (by omega) hset (hbelq.setCell (Nat.le_refl _) _))
                      clear hset hrowq hz
                      generalize binL k c1 = S at *
                      go_wp2
                      go_roundw
                      case rel => exact HSET.out
                      case measure => simp [intOf]; omega
                    · have hqe : (((p + 1 : Nat) : Int) - 1) = (p : Int) := by omega
                      rw [hqe]
                      have HBS := Lib.hid (binL_step (k - (p + 1)) c1 p)
                      have hsl := binL_length (k - (p + 1)) (c1 / 2 ^ (p + 1))
                      generalize binL (k - (p + 1)) (c1 / 2 ^ (p + 1)) = S at *
                      have HSL := Lib.hid hsl.symm
                      clear hsl
                      have hp0 : (0 : Int) ≤ (p : Int) := by omega
                      have hp64 : (p : Int) ≤ 64 := by omega
                      obtain ⟨d, hd⟩ : ∃ d, c1 / 2 ^ p % 2 = d := ⟨_, rfl⟩
                      have hd2 : d = 0 ∨ d = 1 := by omega
                      have hand : bits .and .i64 ((c1 : Int) / 2 ^ p) 1 = (d : Int) := by
                        have := and1_i64 (c1 / 2 ^ p) (Nat.lt_of_le_of_lt (Nat.div_le_self _ _) (by omega))
                        rw [hd] at this
                        rw [← this]
                        simp
                      rw [hd] at HBS
                      have HD := Lib.hid hd
                      clear hd
                      rcases hd2 with rfl | rfl
                      · have hsl := slice_0
                        have hcat := cat_one S 48 (by rw [← HSL.out]; omega)
                        have hw1 : IntKind.i64.wrap 1 = 1 := by decide
                        have hand2 : bits .and .i64 ((c1 : Int) / 2 ^ p) 1 = 0 := hand
                        clear hand
                        go_wp2_with fail
                        go_quiet (fail)
                        go_wp2
                        go_roundw
                        case rel => exact ⟨p, _, by omega, rfl, bin_next HBS.out (by omega) rfl, rfl⟩
                        case measure => simp [intOf]
                      · have hsl := slice_1
                        have hcat := cat_one S 49 (by rw [← HSL.out]; omega)
                        have hw1 : IntKind.i64.wrap 2 = 2 := by decide
                        have hand2 : bits .and .i64 ((c1 : Int) / 2 ^ p) 1 = 1 := hand
                        clear hand
                        go_wp2_with fail
                        go_quiet (fail)
                        go_wp2
                        go_roundw
                        case rel => exact ⟨p, _, by omega, rfl, bin_next HBS.out (by omega) rfl, rfl⟩
                        case measure => simp [intOf]
              · have hkb : ((k : Int) == 1) = false := by simp; omega
                by_cases hov : P ≤ c1
                · have HOV := Lib.hid (words_over hlt hk1 hjl HXK.out HC1.out (by have := HP.out; omega))
                  go_wp2_with fail
                  go_ret2
                  exact worded_no HOV.out hbel
                · have hovb : decide (P ≤ c1) = false := by simp; omega
                  go_wp2_with fail
                  clear hpw
                  obtain ⟨wq, hwq⟩ : ∃ wq : World, wq = wr := ⟨_, rfl⟩
                  have HWQ := Lib.hid hwq
                  clear hwq
                  go_loopw [11, 12] (fun s i wx => ∃ q nq : Nat, q ≤ k ∧ i = .int .i64 ((q : Int) - 1) ∧ s = .string ⟨(binL (k - q) (c1 / 2 ^ q)).toArray⟩ ∧ wx = wq.drewN nq) (fun _ i _ => (intOf i + 1).toNat)
                  case atStart => exact ⟨k, 0, by omega, rfl, by rw [Nat.sub_self]; rfl, HWQ.out.symm⟩
                  case round =>
                    obtain ⟨q, nq, hq, rfl, rfl, rfl⟩ := hrel
                    rcases q with _ | p
                    · have hz : binL (k - 0) (c1 / 2 ^ 0) = binL k c1 := by simp
                      rw [hz]
                      have hrowq : (wq.drewN nq).heap[w.heap.size]? = some (.cells (textsV (rowW L k j)).toArray 9 (0, 0)) := by rw [HWQ.out]; exact hrow
                      have hbelq : Below w.heap.size w (wq.drewN nq) := by rw [HWQ.out]; exact below_drewN hbel nq
                      have hcellq := cell_of_row (wq.drewN nq) w.heap.size j _ _ _ hrowq
                      rw [List.getElem?_toArray, List.getElem?_eq_getElem (by rw [textsV_length, rowW_length]; exact hjl)] at hcellq
                      generalize (textsV (rowW L k j))[j]'_ = old at hcellq
                      have hfrq := frozen_of_row (wq.drewN nq) w.heap.size j _ _ hrowq
                      have hset := heap_setCell_same (wq.drewN nq) w.heap.size j _ 9 (strV (binL k c1)) hrowq
                      rw [textsV_set] at hset
                      have HSET := Lib.hid (signs_hit (z := (o1 : Int)) (o2 := o1) hjl HXK.out HC1.out (by have := HP.out; omega) HU1.out HO1.out (if_neg hk1').symm (by omega) hset (hbelq.setCell (Nat.le_refl _) _))
                      clear hset hrowq hz
                      generalize binL k c1 = S at *
                      go_wp2
                      go_roundw
                      case rel => exact HSET.out
                      case measure => simp [intOf]; omega
                    · have hqe : (((p + 1 : Nat) : Int) - 1) = (p : Int) := by omega
                      rw [hqe]
                      have HBS := Lib.hid (binL_step (k - (p + 1)) c1 p)
                      have hsl := binL_length (k - (p + 1)) (c1 / 2 ^ (p + 1))
                      generalize binL (k - (p + 1)) (c1 / 2 ^ (p + 1)) = S at *
                      have HSL := Lib.hid hsl.symm
                      clear hsl
                      have hp0 : (0 : Int) ≤ (p : Int) := by omega
                      have hp64 : (p : Int) ≤ 64 := by omega
                      obtain ⟨d, hd⟩ : ∃ d, c1 / 2 ^ p % 2 = d := ⟨_, rfl⟩
                      have hd2 : d = 0 ∨ d = 1 := by omega
                      have hand : bits .and .i64 ((c1 : Int) / 2 ^ p) 1 = (d : Int) := by
                        have := and1_i64 (c1 / 2 ^ p) (Nat.lt_of_le_of_lt (Nat.div_le_self _ _) (by omega))
                        rw [hd] at this
                        rw [← this]
                        simp
                      rw [hd] at HBS
                      have HD := Lib.hid hd
                      clear hd
                      rcases hd2 with rfl | rfl
                      · have hsl := slice_0
                        have hcat := cat_one S 48 (by rw [← HSL.out]; omega)
                        have hw1 : IntKind.i64.wrap 1 = 1 := by decide
                        have hand2 : bits .and .i64 ((c1 : Int) / 2 ^ p) 1 = 0 := hand
                        clear hand
                        go_wp2_with fail
                        go_quiet (fail)
                        go_wp2
                        go_roundw
                        case rel => exact ⟨p, _, by omega, rfl, bin_next HBS.out (by omega) rfl, rfl⟩
                        case measure => simp [intOf]
                      · have hsl := slice_1
                        have hcat := cat_one S 49 (by rw [← HSL.out]; omega)
                        have hw1 : IntKind.i64.wrap 2 = 2 := by decide
                        have hand2 : bits .and .i64 ((c1 : Int) / 2 ^ p) 1 = 1 := hand
                        clear hand
                        go_wp2_with fail
                        go_quiet (fail)
                        go_wp2
                        go_roundw
                        case rel => exact ⟨p, _, by omega, rfl, bin_next HBS.out (by omega) rfl, rfl⟩
                        case measure => simp [intOf]
            · have hxb : ((x : Int) != (k : Int)) = true := by simp; omega
              have hsk := HSK.out (by rw [HX.out]; exact hxk)
              go_wp2
              go_roundw
              case rel => exact hsk
              case measure => simp [intOf]; omega
        · obtain rfl : j = L.length := by omega
          go_wp2
          go_roundw
          case rel => exact words_next hlt hk1 HC1.out HC2.out HU1.out HO1.out HF.out hrow hbel
          case measure => simp [intOf]; omega
    · obtain rfl : k = 16 := by omega
      have hrl := right_last hf
      rw [← usedTo_all L H15.out] at hrl
      have hrow' : wr.heap[w.heap.size]? = some (.cells (textsV (wordsL L)).toArray 9 (0, 0)) := by rw [← rowW_end L H15.out]; exact hrow
      have ho : onesTo L 16 = L.count 1 := if_neg (by decide)
      have hbn : ((16 : Nat) : Int) = 16 := rfl
      rw [ho]
      change Code.wp _ _ _ _ _
      simp only [show (16 : Nat) - 1 = 15 from rfl]
      generalize beh L 15 = c0 at *
      generalize usedTo L 15 = u0 at *
      generalize L.count 1 = o0 at *
      have HRL := Lib.hid hrl
      clear hrl hrow hf ho hbn
      have hrow := hrow'
      clear hrow'
      by_cases h1 : c0 = 32768
      · have e1 : ((c0 : Int) == 32768) = true := beq_yes h1
        have HR := Lib.hid (show right L = true by rw [HRL.out]; simp [h1])
        go_wp2
        go_ret2
        exact worded_any HR.out hrow hbel
      · have e1 : ((c0 : Int) == 32768) = false := beq_no h1
        by_cases h2 : u0 = 0
        · have e2 : ((u0 : Int) == 0) = true := beq_yes h2
          have HR := Lib.hid (show right L = true by rw [HRL.out]; simp [h2])
          go_wp2
          go_ret2
          exact worded_any HR.out hrow hbel
        · have e2 : ((u0 : Int) == 0) = false := beq_no h2
          by_cases h3 : u0 = 1
          · have e3 : ((u0 : Int) == 1) = true := beq_yes h3
            by_cases h4 : o0 = 1
            · have e4 : ((o0 : Int) == 1) = true := beq_yes h4
              have HR := Lib.hid (show right L = true by rw [HRL.out]; simp [h3, h4])
              go_wp2
              go_ret2
              exact worded_any HR.out hrow hbel
            · have e4 : ((o0 : Int) == 1) = false := beq_no h4
              have HR := Lib.hid (show right L = false by rw [HRL.out]; simp [h1, h2, h4])
              go_wp2
              go_ret2
              exact worded_any HR.out hrow hbel
          · have e3 : ((u0 : Int) == 1) = false := beq_no h3
            have HR := Lib.hid (show right L = false by rw [HRL.out]; simp [h1, h2, h3])
            go_wp2
            go_ret2
            exact worded_any HR.out hrow hbel

end Go.Proofs.Ythceefhnmjjddaa
