/-
  'cordonlaw03.PercentBack' returns true whatever the text and the place; what was there stays as it was.
-/
import Derived.Test.YtdmgbcpdkmljmaaDecodes
namespace Go.Proofs.Ytdmgbcpdkmljmaa
open Go.RowKit

/-! ### The plain law -/
theorem stands_37 : ∀ p : Int, standsB p 37 = false := by
  intro p
  rw [← stands_same]
  by_cases h1 : p = 1
  · subst h1; decide +kernel
  · by_cases h2 : p = 2
    · subst h2; decide +kernel
    · rw [stands_same]
      have : ownS p = ownS 0 := by unfold ownS; rw [if_neg h1, if_neg h2]; rfl
      unfold standsB
      rw [this]
      decide +kernel
theorem stays_not (p : Int) (t : UInt8 × Bool) (h : stays p t = true) : t.1 ≠ 37 := by
  intro e
  unfold stays at h
  rw [e, stands_37 p] at h
  simp at h
  exact absurd h.2 (by decide)
theorem free_stands (p : Int) (b : UInt8) (h : freeI (b.toNat : Int) = true) : standsB p b = true := by unfold standsB; rw [h]; rfl
theorem dig_hx : ∀ k : Nat, k < 16 → digN (hx k) = (k : Int) := by decide +kernel

/-- What an item has become. -/
def again (p : Int) (t : UInt8 × Bool) : UInt8 × Bool := (t.1, !stays p t)
theorem items_canB (p : Int) (t : UInt8 × Bool) (r : List UInt8) : itemsS (canB p t ++ r) = (itemsS r).map (again p t :: ·) := by
  rw [canB_eq]
  cases h : stays p t with
  | true =>
    rw [if_pos rfl]
    simp only [again, h, Bool.not_true]
    exact itemsS_plain t.1 r (stays_not p t h)
  | false =>
    rw [if_neg (by simp)]
    simp only [again, h, Bool.not_false]
    have hn := t.1.toNat_lt
    have d1 := dig_hx (t.1.toNat / 16) (by omega)
    have d2 := dig_hx (t.1.toNat % 16) (by omega)
    have e := itemsS_coded (hx (t.1.toNat / 16)) (hx (t.1.toNat % 16)) r (by rw [d1, d2]; omega)
    have hb : (16 * (digN (hx (t.1.toNat / 16))).toNat + (digN (hx (t.1.toNat % 16))).toNat).toUInt8 = t.1 := by
      rw [d1, d2, Int.toNat_natCast, Int.toNat_natCast]
      have : 16 * (t.1.toNat / 16) + t.1.toNat % 16 = t.1.toNat := by omega
      rw [this]; simp
    rw [hb] at e
    exact e
theorem items_canL (p : Int) (l : List (UInt8 × Bool)) : itemsS (canL p l) = some (l.map (again p)) := by
  induction l with
  | nil => simp [canL, itemsS]
  | cons t l ih =>
    have e : canL p (t :: l) = canB p t ++ canL p l := by simp [canL]
    rw [e, items_canB, ih]
    rfl
theorem canB_again (p : Int) (t : UInt8 × Bool) : canB p (again p t) = canB p t := by
  have hs : stays p (again p t) = stays p t := by
    unfold again
    cases h : stays p t with
    | true =>
      simp only [stays, Bool.not_true, Bool.false_and, Bool.not_false, Bool.true_and, Bool.false_or]
      simp only [stays, Bool.or_eq_true, Bool.and_eq_true, Bool.not_eq_true'] at h
      rcases h with h | h
      · exact free_stands p t.1 h.2
      · exact h.2
    | false =>
      simp only [stays, Bool.not_false, Bool.true_and, Bool.not_true, Bool.false_and, Bool.or_false]
      cases hf : freeI (t.1.toNat : Int) with
      | false => rfl
      | true =>
        exfalso
        have hst := free_stands p t.1 hf
        unfold stays at h
        rw [hf, hst] at h
        cases t.2 <;> simp at h
  rw [canB_eq, canB_eq, hs]
  rfl
theorem canL_again (p : Int) (l : List (UInt8 × Bool)) : canL p (l.map (again p)) = canL p l := by
  induction l with
  | nil => rfl
  | cons t l ih =>
    have e : canL p (t :: l) = canB p t ++ canL p l := by simp [canL]
    have e' : canL p ((t :: l).map (again p)) = canB p (again p t) ++ canL p (l.map (again p)) := by simp [canL]
    rw [e, e', ih, canB_again]
theorem decL_again (p : Int) (l : List (UInt8 × Bool)) : decL (l.map (again p)) = decL l := by simp [decL, again]
theorem encL_canL (p : Int) (l : List UInt8) : encL p l = canL p (l.map (·, false)) := by
  unfold encL canL
  rw [List.flatMap_map]
  rfl
theorem dec_enc (p : Int) (l : List UInt8) : (itemsS (encL p l)).map decL = some l := by
  rw [encL_canL, items_canL, Option.map_some, decL_again]
  simp [decL, List.map_map, Function.comp_def]

/-! ### The walk -/
set_option maxHeartbeats 1000000 in
set_option maxRecDepth 100000 in
theorem back_any (A : Option Addr) (l : List UInt8) (n c : Nat) (p : Int) (w : World) (h : BytesAt w A l) (hn : n = l.length) (hc : n ≤ c) (hm : n ≤ maxLen) :
    Calls Try.prog 6 #[.slice A n c, .int .i64 p] w fun e w' => e = .returned (.bool true) ∧ Below w.heap.size w w' := by
  unfold maxLen at hm
  by_cases hl : 500 < n
  · have hl' : (500 : Int) < (n : Int) := by omega
    go_enter Try.func6, Try.ntmps6
    go_wp2_with fail
    refine (lives_any _).mono ?_
    rintro e w1 ⟨rfl, hb1⟩
    go_wp2_with fail
    refine (lives_any _).mono ?_
    rintro e w2 ⟨rfl, hb2⟩
    go_wp2
    go_ret
    exact ⟨rfl, hb1.trans (hb2.mono hb1.size)⟩
  · subst hn
    have hl' : (l.length : Int) ≤ 500 := by omega
    have hl3 : l.length ≤ 500 := by omega
    have hel := encL_length p l
    go_enter Try.func6, Try.ntmps6
    go_wp2_with fail
    refine (lives_any _).mono ?_
    rintro e w1 ⟨rfl, hb1⟩
    have h1 := h.below hb1
    clear h
    go_wp2_with fail
    refine (encode_any A l c p _ h1 (by omega)).mono ?_
    rintro e w2 ⟨v2, rfl, hown2, hb2⟩
    obtain ⟨E, c2, hv2, hE, _⟩ := BytesAt.of_own hown2
    have hc2 : (encL p l).length ≤ c2 := by rw [hv2] at hown2; exact own_cap hown2
    rw [hv2]
    have h2 := h1.below hb2
    have hb2' := hb1.trans (hb2.mono hb1.size)
    clear hown2 hv2 hb2 h1 hb1
    have hd1 := decode_any E (encL p l) _ c2 w2 hE rfl hc2 (by omega)
    rw [dec_enc] at hd1
    go_wp2_with fail
    refine hd1.mono ?_
    rintro e w3 ⟨v3, rfl, hown3, hb3⟩
    obtain ⟨D, c3, hv3, hD, _⟩ := BytesAt.of_own hown3
    rw [hv3]
    have h3 := h2.below hb3
    have hb3' := hb2'.trans (hb3.mono hb2'.size)
    have hcv1 := run_str hD c3
    have hcv2 := run_str h3 c
    clear hown3 hv3 hb3 h2 hb2' hE hD
    go_wp2_with fail
    clear hcv1 hcv2
    have hc1 := canon_any A l l.length c p w3 h3 rfl hc (by omega)
    cases hi : itemsS l with
    | none =>
      rw [hi] at hc1
      refine hc1.mono ?_
      rintro e w4 ⟨rfl, hb4⟩
      have h4 := h3.below hb4
      have hb4' := hb3'.trans (hb4.mono hb3'.size)
      have hd2 := decode_any A l l.length c w4 h4 rfl hc (by omega)
      rw [hi] at hd2
      go_wp2_with fail
      refine hd2.mono ?_
      rintro e w5 ⟨rfl, hb5⟩
      go_wp2
      go_ret
      exact ⟨rfl, hb4'.trans (hb5.mono hb4'.size)⟩
    | some its =>
      have hll := itemsS_length _ _ _ (Nat.le_refl _) hi
      have hcl := canL_length p its
      rw [hi] at hc1
      refine hc1.mono ?_
      rintro e w4 ⟨v4, rfl, hown4, hb4⟩
      obtain ⟨C, c4, hv4, hC, _⟩ := BytesAt.of_own hown4
      have hc4 : (canL p its).length ≤ c4 := by rw [hv4] at hown4; exact own_cap hown4
      rw [hv4]
      have h4 := h3.below hb4
      have hb4' := hb3'.trans (hb4.mono hb3'.size)
      clear hown4 hv4 hb4 h3 hb3' hc1
      have hd2 := decode_any A l l.length c w4 h4 rfl hc (by omega)
      rw [hi] at hd2
      go_wp2_with fail
      refine hd2.mono ?_
      rintro e w5 ⟨v5, rfl, hown5, hb5⟩
      obtain ⟨X, c5, hv5, hX, _⟩ := BytesAt.of_own hown5
      rw [hv5]
      have hC5 := hC.below hb5
      have hb5' := hb4'.trans (hb5.mono hb4'.size)
      clear hown5 hv5 hb5 h4 hb4' hd2 hC
      have hc2' := canon_any C (canL p its) _ c4 p w5 hC5 rfl hc4 (by omega)
      rw [items_canL, Option.map_some, canL_again] at hc2'
      go_wp2_with fail
      refine hc2'.mono ?_
      rintro e w6 ⟨v6, rfl, hown6, hb6⟩
      obtain ⟨F, c6, hv6, hF, _⟩ := BytesAt.of_own hown6
      rw [hv6]
      have hC6 := hC5.below hb6
      have hX6 := hX.below hb6
      have hb6' := hb5'.trans (hb6.mono hb5'.size)
      clear hown6 hv6 hb6 hC5 hb5' hc2' hX
      have hd3 := decode_any C (canL p its) _ c4 w6 hC6 rfl hc4 (by omega)
      rw [items_canL, Option.map_some, decL_again] at hd3
      go_wp2_with fail
      refine hd3.mono ?_
      rintro e w7 ⟨v7, rfl, hown7, hb7⟩
      obtain ⟨Y, c7, hv7, hY, _⟩ := BytesAt.of_own hown7
      rw [hv7]
      have k1 := run_str (hC6.below hb7) c4
      have k2 := run_str (hX6.below hb7) c5
      have k3 := run_str (hF.below hb7) c6
      have k4 := run_str hY c7
      go_wp2
      go_ret
      exact ⟨rfl, hb6'.trans (hb7.mono hb6'.size)⟩

end Go.Proofs.Ytdmgbcpdkmljmaa
