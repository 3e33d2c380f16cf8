/-
  The reader's sign, by a contract.
-/
import Derived.Test.YthceefhnmjjddaaTable
namespace Go.Proofs.Ythceefhnmjjddaa
open Go.RowKit

/-- A table in memory, of lengths L. -/
structure TabAt (w : World) (tb : Nat) (A : Option Addr) (c : Nat) (L : List Nat) : Prop where
  cells : Blk w tb 55 (tabCells (fun n => L.count n) (.slice A (sgs L 15).length c))
  nums : NumsAt w A (sgs L 15)

theorem NumsAt.only {w w' : World} {S : List Nat} {A : Option Addr} {l : List Nat} (h : NumsAt w A l) (hO : Only S w w') (hS : ∀ a, A = some a → a.block ∉ S) : NumsAt w' A l := by
  rcases h with h | ⟨b, o, e, hb, hc⟩
  · exact .inl h
  · refine .inr ⟨b, o, e, Nat.lt_of_lt_of_le hb hO.size, fun i hi => ?_⟩
    rw [← hc i hi]
    simp only [World.cell?, hO.block b hb (hS _ e)]
theorem TabAt.only {w w' : World} {S : List Nat} {tb : Nat} {A : Option Addr} {c : Nat} {L : List Nat} (h : TabAt w tb A c L) (hO : Only S w w') (h1 : tb ∉ S) (hS : ∀ a, A = some a → a.block ∉ S) : TabAt w' tb A c L :=
  ⟨hO.blk h.cells h1, h.nums.only hO hS⟩

/-- What the sign's call gives. -/
def Signed (o : Option (Nat × Nat)) (b : Nat) (A : Option Addr) (cap : Nat) (T : List UInt8) (w : World) (e : Ending) (w' : World) : Prop :=
  match o with
  | some (s, I') => e = .returned (.int .i64 (s : Nat)) ∧ Alive w' b A cap T I' ∧ Only [b] w w'
  | none => e = .returned (.int .i64 (-1)) ∧ Halt w' b 2 ∧ Only [b] w w'
theorem signed_some {o : Option (Nat × Nat)} {b : Nat} {A : Option Addr} {cap : Nat} {T : List UInt8} {w w' : World} {s s' I' : Nat} (ho : o = some (s', I')) (hs : s = s') (ha : Alive w' b A cap T I') (hO : Only [b] w w') :
    Signed o b A cap T w (.returned (.int .i64 (s : Nat))) w' := by
  subst ho hs; exact ⟨rfl, ha, hO⟩
theorem signed_none {o : Option (Nat × Nat)} {b : Nat} {A : Option Addr} {cap : Nat} {T : List UInt8} {w w' : World} (ho : o = none) (ha : Halt w' b 2) (hO : Only [b] w w') :
    Signed o b A cap T w (.returned (.int .i64 (-1))) w' := by
  subst ho; exact ⟨rfl, ha, hO⟩

theorem Dead.halt {w : World} {b : Nat} {A : Option Addr} {cap : Nat} {T : List UInt8} (h : Dead w b A cap T) : Halt w b 2 := by
  obtain ⟨x, y, h⟩ := h
  exact ⟨_, _, _, _, h⟩

theorem sgs_prefix (L : List Nat) (j n : Nat) (h : j ≤ n) : ∃ R, sgs L n = sgs L j ++ R := by
  induction n with
  | zero => obtain rfl : j = 0 := by omega
            exact ⟨[], by simp⟩
  | succ n ih =>
    by_cases hj : j = n + 1
    · subst hj; exact ⟨[], by simp⟩
    · obtain ⟨R, hR⟩ := ih (by omega)
      exact ⟨R ++ idxs L (n + 1), by show sgs L n ++ _ = _; rw [hR, List.append_assoc]⟩
theorem sgs_get (L : List Nat) (j K : Nat) (hj : j < 15) (hK : K < L.count (j + 1)) : (sgs L 15).getD ((sgs L j).length + K) 0 = (idxs L (j + 1)).getD K 0 ∧ (sgs L j).length + K < (sgs L 15).length := by
  obtain ⟨R, hR⟩ := sgs_prefix L (j + 1) 15 (by omega)
  have h1 : sgs L (j + 1) = sgs L j ++ idxs L (j + 1) := rfl
  have h2 := idxs_length L (j + 1)
  rw [hR, h1]
  constructor
  · simp only [List.getD_eq_getElem?_getD, List.append_assoc]
    rw [List.getElem?_append_right (by omega), List.getElem?_append_left (by omega)]
    congr 3
    omega
  · simp; omega
theorem or_bit (a y : Nat) (ha : a < 2 ^ 30) (hy : y < 2) : bits .or .i64 ((2 * a : Nat) : Int) (y : Int) = ((2 * a + y : Nat) : Int) := by
  rw [(bits_nat .i64 62 (by decide) wraps_i64 (2 * a) y (by omega) (by omega)).2]
  have := Nat.two_pow_add_eq_or_of_lt (i := 1) (b := y) (by omega) a
  rw [Nat.pow_one] at this
  rw [← this]

theorem Alive.e0 {w : World} {b : Nat} {A : Option Addr} {cap : Nat} {T : List UInt8} {I : Nat} (h : Alive w b A cap T I) : w.cell? ⟨b, 4, none⟩ = some (.int .i64 0) ∧ w.frozen? ⟨b, 4, none⟩ = false := by
  obtain ⟨rest, n, hb, _⟩ := h.cells
  exact ⟨hb.cell 4, hb.frozen 4⟩
theorem Alive.halt {w : World} {b : Nat} {A : Option Addr} {cap : Nat} {T : List UInt8} {I : Nat} (h : Alive w b A cap T I) (e : Int) : Halt (w.setCell ⟨b, 4, none⟩ (.int .i64 e)) b e := by
  obtain ⟨rest, n, hb, _⟩ := h.cells
  exact ⟨_, _, _, _, hb.set_ 4 _⟩
theorem Dead.e2 {w : World} {b : Nat} {A : Option Addr} {cap : Nat} {T : List UInt8} (h : Dead w b A cap T) : w.cell? ⟨b, 4, none⟩ = some (.int .i64 2) ∧ w.frozen? ⟨b, 4, none⟩ = false := by
  obtain ⟨_, _, hb⟩ := h
  exact ⟨hb.cell 4, hb.frozen 4⟩
/-- One length more. -/
theorem signF_hit {T : List UInt8} {L : List Nat} {m j code I K : Nat} (hI : I < 8 * T.length) (hK : 2 * code + bitAt T I = 2 * beh L j + K) (hc : K < L.count (j + 1)) :
    signF T L (m + 1) (j + 1) code I = some ((idxs L (j + 1)).getD K 0, I + 1) := by
  have hb : beh L (j + 1) = 2 * beh L j + L.count (j + 1) := rfl
  unfold signF
  rw [if_pos hI, if_pos (by omega), show j + 1 - 1 = j by omega, show 2 * code + bitAt T I - 2 * beh L j = K by omega]
theorem signF_miss {T : List UInt8} {L : List Nat} {m j code I K : Nat} (hI : I < 8 * T.length) (hK : 2 * code + bitAt T I = 2 * beh L j + K) (hc : ¬ K < L.count (j + 1)) :
    signF T L (m + 1) (j + 1) code I = signF T L m (j + 2) (2 * code + bitAt T I) (I + 1) := by
  have hb : beh L (j + 1) = 2 * beh L j + L.count (j + 1) := rfl
  conv => lhs; unfold signF
  rw [if_pos hI, if_neg (by omega)]
theorem signF_end {T : List UInt8} {L : List Nat} {m n code I : Nat} (hI : ¬ I < 8 * T.length) : signF T L m n code I = none := by
  cases m with
  | zero => rfl
  | succ m => unfold signF; rw [if_neg hI]

def SignRel (o : Option (Nat × Nat)) (b : Nat) (A : Option Addr) (cap : Nat) (T : List UInt8) (L : List Nat) (w : World) (c f a n : Value) (wr : World) : Prop :=
  ∃ (j : Nat), j ≤ 15 ∧ n = .int .i64 ((j : Int) + 1) ∧ Only [b] w wr ∧
    ((∃ code I' : Nat, c = .int .i64 ((2 * code : Nat) : Int) ∧ f = .int .i64 ((2 * beh L j : Nat) : Int) ∧ a = .int .i64 ((sgs L j).length : Nat) ∧ Alive wr b A cap T I' ∧ beh L j ≤ code ∧ code < 2 ^ j ∧ o = signF T L (15 - j) (j + 1) code I') ∨
     (Dead wr b A cap T ∧ o = none))

set_option maxHeartbeats 4000000 in
set_option maxRecDepth 100000 in
theorem sign_any (b tb : Nat) (A At : Option Addr) (cap ct : Nat) (T : List UInt8) (L : List Nat) (I : Nat) (w : World) (h : Alive w b A cap T I) (hT : T.length ≤ 1048576)
    (ht : TabAt w tb At ct L) (hne : tb ≠ b) (hfar : ∀ a, At = some a → a.block ≠ b) (hL : L.length ≤ 65536) :
    Calls Try.prog 36 #[.pointer (some ⟨b, 0, none⟩), .pointer (some ⟨tb, 0, none⟩)] w (Signed (signS T L I) b A cap T w) := by
  have hs0 : signS T L I = signF T L 15 1 0 I := rfl
  have HS0 := Lib.hid hs0
  clear hs0
  generalize signS T L I = o at *
  go_enter Try.func36, Try.ntmps36
  go_wp2
  go_loopw [5, 6, 7, 8] (fun c f a n wr => SignRel o b A cap T L w c f a n wr) (fun _ _ _ n _ => 16 - (intOf n).toNat)
  case atStart => exact ⟨0, by omega, rfl, Only.refl _ _, .inl ⟨0, I, rfl, rfl, rfl, h, by simp [beh], by omega, HS0.out⟩⟩
  case round =>
    obtain ⟨j, hj, rfl, hO, hcase⟩ := hrel
    rcases hcase with ⟨code, I', rfl, rfl, rfl, ha, hbc, hcj, ho⟩ | ⟨hd, ho⟩
    · by_cases hlt : j < 15
      · have hpow : 2 ^ j ≤ 2 ^ 14 := Nat.pow_le_pow_right (by omega) (by omega)
        obtain ⟨h4, f4⟩ := ha.e0
        have hjb : decide ((j : Int) + 1 ≤ 15) = true := by simp; omega
        have hcl := L.count_le_length (a := j + 1)
        have hsl := sgs_le L j
        rw [show 15 - j = (14 - j) + 1 by omega] at ho
        have htr := ht.only hO (by simpa using hne) (by simpa using hfar)
        obtain ⟨C, hC⟩ : ∃ C, 2 * code = C := ⟨_, rfl⟩
        obtain ⟨F, hF⟩ : ∃ F, 2 * beh L j = F := ⟨_, rfl⟩
        obtain ⟨a, hsa⟩ : ∃ a, (sgs L j).length = a := ⟨_, rfl⟩
        have hFC : F ≤ C := by omega
        have hC2 : C < 32768 := by omega
        have hor : ∀ y : Nat, y < 2 → bits .or .i64 (C : Int) (y : Int) = ((C + y : Nat) : Int) := by rw [← hC]; exact fun y hy => or_bit code y (by omega) hy
        rw [hC, hF, hsa]
        rw [hsa] at hsl
        have HC := Lib.hid hC
        have HF := Lib.hid hF
        have HSA := Lib.hid hsa
        have HOO := Lib.hid ho
        have HOR := Lib.hid hor
        clear ho hC hF hsa hor
        go_wp2_with fail
        by_cases hI : I' < 8 * T.length
        · refine (bit_alive _ _ _ _ _ _ ha hI hT).mono ?_
          rintro e w3 ⟨rfl, ha3, hO3⟩
          have hlt2 := bitAt_lt T I'
          have hor := HOR.out _ hlt2
          have htr3 := htr.only hO3 (by simpa using hne) (by simpa using hfar)
          have hc55 := (htr3.cells.cell (j + 1)).trans (tab_get (fun n => L.count n) _ _ (by omega))
          have hc16 := htr3.cells.cell 16
          rw [tab_get16] at hc16
          obtain ⟨K, hK⟩ : ∃ K, C + bitAt T I' = F + K := ⟨C + bitAt T I' - F, by omega⟩
          have hKF : ((C + bitAt T I' : Nat) : Int) - (F : Int) = (K : Int) := by omega
          have hit := fun hc => signF_hit (m := 14 - j) hI (show 2 * code + bitAt T I' = 2 * beh L j + K by rw [HC.out, HF.out]; exact hK) hc
          have miss := fun hc => signF_miss (m := 14 - j) hI (show 2 * code + bitAt T I' = 2 * beh L j + K by rw [HC.out, HF.out]; exact hK) hc
          obtain ⟨D, hD⟩ : ∃ D, C + bitAt T I' = D := ⟨_, rfl⟩
          rw [HC.out, hD] at miss
          rw [hD] at hor hKF hK
          have hD2 : D < 32768 + 2 := by omega
          have hget := sgs_get L j K hlt
          have hbn : beh L (j + 1) = 2 * beh L j + L.count (j + 1) := rfl
          rw [HF.out] at hbn
          have hsn : (sgs L (j + 1)).length = (sgs L j).length + L.count (j + 1) := by show (sgs L j ++ idxs L (j + 1)).length = _; rw [List.length_append, idxs_length]
          rw [HSA.out] at hsn hget
          generalize bitAt T I' = y at *
          generalize L.count (j + 1) = cx at *
          obtain ⟨h43, f43⟩ := ha3.e0
          have HD := Lib.hid hD
          have HK := Lib.hid hK
          have HBN := Lib.hid hbn
          have HSN := Lib.hid hsn
          have HM := Lib.hid miss
          have HH := Lib.hid hit
          have HG := Lib.hid hget
          have hKD : K ≤ D := by omega
          clear hD hK hbn hsn miss hit hget
          by_cases hkc : K < cx
          · obtain ⟨hg1, hg2⟩ := HG.out hkc
            obtain ⟨bs, os, rfl, hbs, hcs⟩ : ∃ bs os, At = some ⟨bs, os, none⟩ ∧ bs < w3.heap.size ∧ w3.cell? ⟨bs, os + (a + K), none⟩ = some (.int .i64 ((sgs L 15).getD (a + K) 0 : Nat)) := by
              rcases htr3.nums with h0 | ⟨bs, os, e, hbs, hcs⟩
              · rw [h0] at hg2; simp at hg2
              · exact ⟨bs, os, e, hbs, hcs _ hg2⟩
            rw [hg1] at hcs
            have hfin := HOO.out.trans (HH.out hkc)
            have HFIN := Lib.hid hfin
            clear hg1 hfin
            go_wp2
            go_ret
            exact signed_some HFIN.out rfl ha3 (hO.trans hO3)
          · have hfin := HOO.out.trans (HM.out hkc)
            have HFIN := Lib.hid hfin
            clear hfin
            go_wp2
            go_roundw
            case rel =>
              have h1 := HBN.out
              have h2 := HSN.out
              have h3 := HD.out
              have h4 := HK.out
              refine ⟨j + 1, by omega, by go_num, hO.trans hO3, .inl ⟨D, I' + 1, ?_, ?_, ?_, ha3, ?_, ?_, ?_⟩⟩
              · rw [show ((2 * D : Nat) : Int) = (D : Int) * 2 by omega]
              · rw [show ((2 * beh L (j + 1) : Nat) : Int) = ((F : Int) + (cx : Int)) * 2 by omega]
              · rw [show (((sgs L (j + 1)).length : Nat) : Int) = (a : Int) + (cx : Int) by omega]
              · omega
              · have := HC.out; rw [Nat.pow_succ]; omega
              · rw [HFIN.out]; congr 1; omega
            case measure => simp [intOf]; omega
        · refine (bit_end _ _ _ _ _ _ ha (by have := ha.hI; omega)).mono ?_
          rintro e w3 ⟨rfl, hd3, hO3⟩
          have hor : bits .or .i64 (C : Int) 0 = (C : Int) := by simpa using HOR.out 0 (by omega)
          obtain ⟨h43, f43⟩ := hd3.e2
          have htr3 := htr.only hO3 (by simpa using hne) (by simpa using hfar)
          have hc55 := (htr3.cells.cell (j + 1)).trans (tab_get (fun n => L.count n) _ _ (by omega))
          generalize L.count (j + 1) = cx at *
          have hfin := HOO.out.trans (signF_end hI)
          have HFIN := Lib.hid hfin
          clear hfin hI
          by_cases hkc : (C : Int) - (F : Int) < (cx : Int)
          · go_wp2
            go_ret
            exact signed_none HFIN.out hd3.halt (hO.trans hO3)
          · go_wp2
            go_roundw
            case rel => exact ⟨j + 1, by omega, by go_num, hO.trans hO3, .inr ⟨hd3, HFIN.out⟩⟩
            case measure => simp [intOf]; omega
      · obtain rfl : j = 15 := by omega
        obtain ⟨h4, f4⟩ := ha.e0
        have HOO := Lib.hid ho
        clear ho
        go_wp2
        go_ret
        exact signed_none HOO.out (ha.halt 2) (hO.set (by simp) _ _)
    · obtain ⟨_, _, hb⟩ := hd
      have h4 := hb.cell 4
      have f4 := hb.frozen 4
      simp at h4
      have HOO := Lib.hid ho
      clear ho
      by_cases hlt : j < 15
      · go_wp2
        go_ret
        exact signed_none HOO.out ⟨_, _, _, _, hb.set_ 4 _⟩ (hO.set (by simp) _ _)
      · go_wp2
        go_ret
        exact signed_none HOO.out ⟨_, _, _, _, hb.set_ 4 _⟩ (hO.set (by simp) _ _)
end Go.Proofs.Ythceefhnmjjddaa
