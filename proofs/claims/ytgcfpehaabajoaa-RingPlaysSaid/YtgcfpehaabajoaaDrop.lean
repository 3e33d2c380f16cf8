/-
  Drop at the law's function; At, Len, has, slot over what a ring holds.
-/
import Derived.Test.YtgcfpehaabajoaaCopies
namespace Go.Proofs.Ytgcfpehaabajoaa
open Go.RowKit

theorem hasL (b g N : Nat) (L : List Int) (i : Int) (w : World) (h : RingL w b g N L) :
    Calls Try.prog 23 #[.pointer (some ⟨b, 0, none⟩), .int .i64 i] w fun e w' => e = .returned (.bool (decide (0 ≤ i ∧ i < L.length))) ∧ w = w' := by
  obtain ⟨f, m, raw, c, h, rfl⟩ := h
  rw [upto_length]
  by_cases hi : 0 ≤ i ∧ i < m
  · rw [decide_eq_true hi]
    obtain ⟨k, rfl⟩ : ∃ k : Nat, i = (k : Int) := ⟨i.toNat, by omega⟩
    exact has_yes b g N f m k w h.hb (by omega)
  · rw [decide_eq_false hi]
    exact has_no b g N f m i w h.hb (by omega)

theorem slotL (b g N : Nat) (L : List Int) (i : Int) (k : Nat) (w : World) (h : RingL w b g N L) (hi : i = (k : Nat)) (hk : k < L.length) :
    Calls Try.prog 21 #[.pointer (some ⟨b, 0, none⟩), .int .i64 i] w fun e w' => (∃ j, e = .returned (.pointer (some ⟨g, j, none⟩)) ∧ w'.cell? ⟨g, j, none⟩ = some (.int .i64 (L.getD k 0))) ∧ ∃ q, w' = w.drewN q := by
  obtain ⟨f, m, raw, c, h, rfl⟩ := h
  rw [upto_length] at hk
  have hN := h.hh.hN
  have hf := h.hh.hf
  have hm := h.hh.hn
  refine (slot_at b g N f m k i w h.hb hN hf hi (by omega)).mono ?_
  rintro e w' ⟨rfl, q, rfl⟩
  have hc := h.hg.row ((f + k) % N) (by rw [h.hh.len]; exact Nat.mod_lt _ (by omega))
  rw [h.hh.hat k hk] at hc
  refine ⟨⟨_, rfl, ?_⟩, q, rfl⟩
  rw [List.getD_eq_getElem?_getD, upto_get c m k hk]
  exact hc

theorem atL (b g N : Nat) (L : List Int) (i : Int) (w : World) (h : RingL w b g N L) :
    Calls Try.prog 17 #[.pointer (some ⟨b, 0, none⟩), .int .i64 i] w fun e w' => e = .returned (.tuple #[.int .i64 (at_ L i), .bool (decide (0 ≤ i ∧ i < L.length))]) ∧ ∃ q, w' = w.drewN q := by
  obtain ⟨f, m, raw, c, h, rfl⟩ := h
  unfold at_
  rw [upto_length]
  by_cases hi : 0 ≤ i ∧ i < m
  · rw [if_pos hi, decide_eq_true hi]
    obtain ⟨k, rfl⟩ : ∃ k : Nat, i = (k : Int) := ⟨i.toNat, by omega⟩
    have hk : k < m := by omega
    rw [Int.toNat_natCast, List.getD_eq_getElem?_getD, upto_get c m k hk]
    exact at_yes b g N f m k raw c w h hk
  · rw [if_neg hi, decide_eq_false hi]
    refine (at_no b g N f m i w h.hb (by omega)).mono ?_
    rintro e w' ⟨rfl, rfl⟩
    exact ⟨rfl, 0, rfl⟩

theorem lenL (b g N : Nat) (L : List Int) (w : World) (h : RingL w b g N L) :
    Calls Try.prog 10 #[.pointer (some ⟨b, 0, none⟩)] w fun e w' => e = .returned (.int .i64 (L.length : Nat)) ∧ w = w' := by
  obtain ⟨f, m, raw, c, h, rfl⟩ := h
  rw [upto_length]
  exact len_any b g N f m w h.hb

/-- The law's question of a number. -/
def third (x : Int) : Int := (IntKind.u64.wrap x).tmod 3

theorem is_any (Bx : Nat) (x X : Int) (w : World) (hX : w.cell? ⟨Bx, 2, none⟩ = some (.int .i64 X)) :
    Calls Try.prog 20 #[.int .i64 x, .pointer (some ⟨Bx, 0, none⟩)] w fun e w' => e = .returned (.bool (third x == third X)) ∧ w = w' := by
  go_enter Try.func20, Try.ntmps20
  go_wp2
  go_ret
  exact ⟨rfl, rfl⟩

/-- What is left of the first k of L. -/
def kept (X : Int) (L : List Int) : List Int := L.filter fun x => !(third x == third X)
theorem kept_yes (X : Int) (L : List Int) (k : Nat) (h : k < L.length) (hx : (third (L.getD k 0) == third X) = true) : kept X (L.take (k + 1)) = kept X (L.take k) := by
  have hx' : (third L[k] == third X) = true := by simpa [h] using hx
  unfold kept
  rw [List.take_succ_eq_append_getElem h, List.filter_append, List.filter_cons_of_neg (by rw [hx']; decide)]
  simp
theorem kept_no (X : Int) (L : List Int) (k : Nat) (h : k < L.length) (hx : (third (L.getD k 0) == third X) = false) : kept X (L.take (k + 1)) = kept X (L.take k) ++ [L.getD k 0] := by
  have hx' : (third L[k] == third X) = false := by simpa [h] using hx
  unfold kept
  rw [List.take_succ_eq_append_getElem h, List.filter_append, List.filter_cons_of_pos (by rw [hx']; decide)]
  simp [h]
theorem kept_le (X : Int) (L : List Int) (k : Nat) (h : k ≤ L.length) : (kept X (L.take k)).length ≤ k := by
  have := List.length_filter_le (fun x => !(third x == third X)) (L.take k)
  rw [List.length_take] at this
  unfold kept; omega

/-- The measure: how many are still to be seen. -/
def leftOf (w : World) (b : Nat) (i : Value) : Nat := (intOf ((w.cell? ⟨b, 2, none⟩).getD undef)).toNat - (intOf i).toNat
theorem leftOf_eq {w : World} {b g N : Nat} {L : List Int} (h : RingL w b g N L) (i : Nat) : leftOf w b (.int .i64 (i : Nat)) = L.length - i := by
  obtain ⟨f, m, raw, c, h, rfl⟩ := h
  have h2 := h.hb.cell 2
  simp at h2
  rw [upto_length]
  simp [leftOf, h2, intOf]

set_option maxRecDepth 100000 in
theorem dropL (b g N Bx : Nat) (X : Int) (L : List Int) (w : World) (h : RingL w b g N L) (hX : w.cell? ⟨Bx, 2, none⟩ = some (.int .i64 X)) (h1 : Bx ≠ b) (h2 : Bx ≠ g) :
    Calls Try.prog 18 #[.pointer (some ⟨b, 0, none⟩), .func (.func 20) #[] #[.pointer (some ⟨Bx, 0, none⟩)]] w fun e w' => e = .returned (.int .i64 ((L.length - (kept X L).length : Nat) : Int)) ∧ Turned b g w w' ∧ RingL w' b g N (kept X L) := by
  have hLen := h.len
  have hlB := World.block_lt_of_cell? _ _ hX
  go_enter Try.func18, Try.ntmps18
  go_wp2_with fail
  go_loopw [5, 6] (fun n i wr => ∃ k : Nat, k ≤ L.length ∧ i = .int .i64 ((kept X (L.take k)).length : Nat) ∧ n = .int .i64 ((k - (kept X (L.take k)).length : Nat) : Int) ∧ Turned b g w wr ∧ RingL wr b g N (kept X (L.take k) ++ L.drop k)) (fun _ i wr => leftOf wr b i)
  case atStart => exact ⟨0, by omega, by rw [List.take_zero]; rfl, by rw [List.take_zero]; rfl, Turned.refl _ _ _, by rw [List.take_zero, List.drop_zero]; exact h⟩
  case round =>
    obtain ⟨k, hk, rfl, rfl, ht, hr⟩ := hrel
    have hX' : wr.cell? ⟨Bx, 2, none⟩ = some (.int .i64 X) := by rw [← hX]; simp only [World.cell?, ht.block Bx hlB h1 h2]
    have hle := kept_le X L k hk
    have hll : (kept X (L.take k) ++ L.drop k).length = (kept X (L.take k)).length + (L.length - k) := by simp
    by_cases hlt : k < L.length
    · have hdr : L.drop k = L.getD k 0 :: L.drop (k + 1) := by
        rw [List.drop_eq_getElem_cons hlt]; simp [hlt]
      have hxv : (kept X (L.take k) ++ L.drop k).getD (kept X (L.take k)).length 0 = L.getD k 0 := by
        rw [hdr, List.getD_eq_getElem?_getD, List.getElem?_append_right (Nat.le_refl _), Nat.sub_self]; rfl
      have hera : (kept X (L.take k) ++ L.drop k).eraseIdx (kept X (L.take k)).length = kept X (L.take k) ++ L.drop (k + 1) := by
        rw [List.eraseIdx_append_of_length_le (Nat.le_refl _), Nat.sub_self, List.drop_eq_getElem_cons hlt, List.eraseIdx_zero, List.tail_cons]
      have hy := kept_yes X L k hlt
      have hn := kept_no X L k hlt
      obtain ⟨x, hx⟩ : ∃ x, L.getD k 0 = x := ⟨_, rfl⟩
      rw [hx] at hxv hdr hy hn
      have hmeas := leftOf_eq hr (kept X (L.take k)).length
      generalize hP : kept X (L.take k) = P at *
      generalize hI : P.length = I at *
      have hd : decide (0 ≤ (I : Int) ∧ (I : Int) < ((P ++ L.drop k).length : Nat)) = true := by rw [decide_eq_true_eq, hll]; omega
      have hd2 := of_decide_eq_true hd
      clear h hX
      go_wp2_with fail
      refine (hasL _ _ _ _ _ _ hr).mono ?_
      rintro e w3 ⟨rfl, rfl⟩
      rw [hd]
      go_wp2_with fail
      refine (slotL b g N _ _ I _ hr rfl (by omega)).mono ?_
      rintro e w3 ⟨⟨j, rfl, hc⟩, q, rfl⟩
      rw [hxv] at hc
      have hrq : RingL (wr.drewN q) b g N (P ++ L.drop k) := hr.grown (below_drewN (Below.refl _ wr) q)
      have htq : Turned b g w (wr.drewN q) := ht.trans (Turned.of_below (below_drewN (Below.refl _ wr) q))
      cases hq : (third x == third X)
      · have hn := hn hq
        go_wp2_with fail
        refine (is_any Bx x X _ (by exact hX')).mono ?_
        rintro e w3 ⟨rfl, rfl⟩
        rw [hq]
        go_wp2
        go_roundw
        case rel =>
          refine ⟨k + 1, by omega, ?_, ?_, htq, ?_⟩
          · rw [hn, List.length_append, hI]; go_num
          · rw [hn, List.length_append, hI]; congr 2; simp
          · rw [hn, List.append_assoc]; rw [hdr] at hrq; exact hrq
        case measure =>
          have hm2 := leftOf_eq hrq (I + 1)
          rw [show ((I : Int) + 1) = ((I + 1 : Nat) : Int) from rfl, hm2, hmeas]
          omega
      · have hy := hy hq
        go_wp2_with fail
        refine (is_any Bx x X _ (by exact hX')).mono ?_
        rintro e w3 ⟨rfl, rfl⟩
        rw [hq]
        go_wp2_with fail
        refine (takeL _ _ _ _ _ _ hrq).mono ?_
        rintro e w3 ⟨rfl, ht3, hr3⟩
        rw [if_pos hd2, Int.toNat_natCast, hera] at hr3
        go_wp2
        go_roundw
        case rel =>
          refine ⟨k + 1, by omega, ?_, ?_, htq.trans ht3, ?_⟩
          · rw [hy, hI]
          · rw [hy, hI]; go_num
          · rw [hy]; exact hr3
        case measure =>
          have hm2 := leftOf_eq hr3 I
          rw [hm2, hmeas]
          simp
          omega
    · obtain rfl : k = L.length := by omega
      simp only [List.take_length, List.drop_length, List.append_nil] at hr hll hle ⊢
      have hd : decide (0 ≤ ((kept X L).length : Int) ∧ ((kept X L).length : Int) < ((kept X L).length : Nat)) = false := by rw [decide_eq_false_iff_not]; omega
      obtain ⟨D, hD⟩ : ∃ D, L.length - (kept X L).length = D := ⟨_, rfl⟩
      rw [hD]
      clear hll hle
      go_wp2_with fail
      refine (hasL _ _ _ _ _ _ hr).mono ?_
      rintro e w3 ⟨rfl, rfl⟩
      rw [hd]
      go_wp2
      go_ret
      exact ⟨by rw [hD]; rfl, ht, hr⟩

end Go.Proofs.Ytgcfpehaabajoaa
