/-
  percent.Encode, by a contract: what it hands back is new, and holds the bytes encoded for the place; nothing that was there has turned.
-/
import Derived.Test.YtdmgbcpdkmljmaaWrite
namespace Go.Proofs.Ytdmgbcpdkmljmaa
open Go.RowKit

/-- What a call hands back holds l', in new memory; what was there is as it was. -/
def Made (l' : List UInt8) (w : World) (e : Ending) (w' : World) : Prop :=
  ∃ v', e = .returned v' ∧ w'.ownsRow w.heap.size 5 1 v' l'.length (bytesV l') ∧ Below w.heap.size w w'

theorem conv_bytes (s : ByteArray) (W : World) : ∃ c W1, (convert 9 22 (.string s)).run Try.prog W = .ok (.slice (some ⟨W.heap.size, 0, none⟩) s.size c) W1 ∧
    BytesAt W1 (some ⟨W.heap.size, 0, none⟩) s.data.toList ∧ Below W.heap.size W W1 ∧ W1.heap.size = W.heap.size + 1 := by
  refine ⟨_, _, run_bytes_of_string W 9 22 5 s Try.underlying9 Try.underlying22 Try.underlying5, ?_, ((Below.refl _ W).drew).alloc (Nat.le_refl _) _, by simp⟩
  by_cases h0 : s.data.toList = []
  · exact .inl h0
  · refine .inr ⟨_, 0, rfl, by simp, fun i hi => ?_⟩
    have hs : s.data.size = s.size := rfl
    have hi' : i < s.size := by simpa using hi
    refine (cell_of_row (W.drew.alloc _) W.heap.size (0 + i) _ _ _ (heap_alloc_new W.drew _)).trans ?_
    simp only [bytesRow, Nat.zero_add]
    rw [Array.getElem?_append_left (by simp [hs]; exact hi')]
    simp [List.getD_eq_getElem?_getD, hs, hi']

theorem index_at (A : Option Addr) (l : List UInt8) (n c : Nat) (b : UInt8) (w : World) (h : BytesAt w A l) (hn : n = l.length) :
    Calls Try.prog 16 #[.slice A n c, .int .u8 (b.toNat : Nat)] w fun e w' => e = .returned (.int .i64 (Lib.indexByte l b)) ∧ w = w' := by
  subst hn; exact index_any A l c b w h

/-- May it stand? by the program's own words. -/
def standsB (p : Int) (b : UInt8) : Bool := freeI (b.toNat : Int) || decide (0 ≤ Lib.indexByte (ownS p).data.toList b)
def encB (p : Int) (b : UInt8) : List UInt8 := if standsB p b then [b] else 37 :: hexL b.toNat
def encL (p : Int) (l : List UInt8) : List UInt8 := l.flatMap (encB p)
theorem encB_length (p : Int) (b : UInt8) : (encB p b).length ≤ 3 := by unfold encB; split <;> simp [hexL]
theorem encL_length (p : Int) (l : List UInt8) : (encL p l).length ≤ 3 * l.length := by
  induction l with
  | nil => simp [encL]
  | cons b l ih =>
    have := encB_length p b
    simp only [encL, List.flatMap_cons, List.length_append, List.length_cons] at *
    omega
theorem encL_snoc (p : Int) (l : List UInt8) (b : UInt8) : encL p (l ++ [b]) = encL p l ++ encB p b := by simp [encL]
theorem encL_take (p : Int) (l : List UInt8) (k : Nat) (h : k < l.length) : encL p (l.take (k + 1)) = encL p (l.take k) ++ encB p (l.getD k 0) := by
  rw [List.take_succ_eq_append_getElem h, encL_snoc]
  simp [h]

theorem World.ownsRow.mono {w : World} {base base' : Nat} {e : TypeId} {size : Nat} {v : Value} {n : Nat} {xs : List Value} (h : w.ownsRow base e size v n xs) (hb : base' ≤ base) : w.ownsRow base' e size v n xs := by
  refine ⟨h.1, ?_⟩
  rcases h.2 with h2 | ⟨g, cap, cur, hv, hg, r⟩
  · exact .inl h2
  · exact .inr ⟨g, cap, cur, hv, by omega, r⟩

set_option maxHeartbeats 400000 in
set_option maxRecDepth 100000 in
theorem encode_any (A : Option Addr) (l : List UInt8) (c : Nat) (p : Int) (w : World) (h : BytesAt w A l) (hl : l.length ≤ 65536) :
    Calls Try.prog 8 #[.slice A l.length c, .int .i64 p] w (Made (encL p l) w) := by
  obtain ⟨i0, hi, hz0, hz1, hz2⟩ := info_parts info5
  obtain ⟨c1, W1, hrun, hown, hb1, hsz⟩ := conv_bytes (ownS p) w
  go_enter Try.func8, Try.ntmps8
  go_wp2_with fail
  refine (ownS_any p _).mono ?_
  rintro e w' ⟨rfl, rfl⟩
  go_wp2_with fail
  clear hrun
  have hown0 : W1.ownsRow (w.heap.size + 1) 5 1 (.slice none 0 0) 0 [] := World.ownsRow_nil _ _ _ _
  have hb0 : Below (w.heap.size + 1) W1 W1 := Below.refl _ _
  have hA1 := h.below hb1
  clear h
  go_loopw [6, 14] (fun v i wr => ∃ k : Nat, k ≤ l.length ∧ i = .int .i64 (k : Nat) ∧ wr.ownsRow (w.heap.size + 1) 5 1 v (encL p (l.take k)).length (bytesV (encL p (l.take k))) ∧ Below (w.heap.size + 1) W1 wr) (fun _ i _ => l.length - (intOf i).toNat)
  case atStart => exact ⟨0, Nat.zero_le _, rfl, hown0, hb0⟩
  case round =>
    obtain ⟨k, hk, rfl, howr, hbel⟩ := hrel
    clear hown0 hb0
    by_cases hlt : k < l.length
    · obtain ⟨b, o, rfl, hblt, hcell⟩ : ∃ b o, A = some ⟨b, o, none⟩ ∧ b < w.heap.size + 1 ∧ W1.cell? ⟨b, o + k, none⟩ = some (.int .u8 ((l.getD k 0).toNat : Nat)) := by
        rcases hA1 with h0 | ⟨b, o, e, hb, hc⟩
        · rw [h0] at hlt; simp at hlt
        · exact ⟨b, o, e, by omega, hc k hlt⟩
      have hcr := (hbel.cell (p := ⟨b, o + k, none⟩) hblt).trans hcell
      clear hcell
      have hownr : BytesAt wr (some ⟨w.heap.size, 0, none⟩) (ownS p).data.toList := hown.keep (by have := hbel.size; omega) fun q hq => hbel.cell (by omega)
      have htk := Lib.hid (encL_take p l k hlt)
      have hle := encL_length p (l.take k)
      have htl : (l.take k).length ≤ k := List.length_take_le _ _
      generalize hx : l.getD k 0 = x at hcr htk
      clear hx
      have hxb : x.toNat < 256 := x.toNat_lt
      generalize hL : encL p (l.take k) = L at howr htk hle
      clear hL
      by_cases hf : freeI (x.toNat : Int) = true
      · have hst : encB p x = [x] := by unfold encB standsB; rw [hf]; rfl
        have HST := Lib.hid hst
        clear hst
        go_wp2_with (first
          | (go_at_call 15; refine (free_int (x.toNat : Int) _).mono ?_; rintro e w' ⟨rfl, rfl⟩)
          | (at_builtin; refine wpList_append_own _ rfl _ _ 22 rfl (w.heap.size + 1) 5 i0 (.int .u8 0) 1 1 Try.underlying22 hi hz0 hz1 hz2 rfl (by decide) _ _ _ rfl (howr.alloc _) ⟨wr.heap.size, 0, none⟩ 1 1 [.int .u8 (x.toNat : Nat)] rfl rfl ?c1 ?c2 ?c3 ?c4 ?c5 ?_))
        case c1 =>
          intro j u hj
          match j, hj with
          | 0, hj => simp at hj; subst hj; simp [Addr.add]
        case c2 => intro u hu; simp at hu; subst hu; rfl
        case c3 => unfold maxLen; omega
        case c4 => omega
        case c5 => have := hbel.size; simp; omega
        intro v' w1 hown' hgrow _
        have hb2 : Below (w.heap.size + 1) W1 w1 := (hbel.alloc (by have := hbel.size; omega) _).grown hgrow (by have := hbel.size; simp; omega) (fun g hg => (howr.lt g hg).1)
        clear hgrow howr hbel hcr hownr
        go_wp2
        go_roundw
        case rel => exact ⟨k + 1, by omega, by go_num, by rw [htk.out, HST.out, List.length_append, bytesV_append]; exact hown', hb2⟩
        case measure => simp [intOf]; omega
      · by_cases hs : 0 ≤ Lib.indexByte (ownS p).data.toList x
        · have hst : encB p x = [x] := by unfold encB standsB; rw [if_pos (by simp [hs])]
          have HST := Lib.hid hst
          clear hst
          go_wp2_with (first
            | (go_at_call 15; refine (free_int (x.toNat : Int) _).mono ?_; rintro e w' ⟨rfl, rfl⟩)
            | (go_at_call 16; refine (index_at _ (ownS p).data.toList _ _ x _ hownr (by simp)).mono ?_; rintro e w' ⟨rfl, rfl⟩)
            | (at_builtin; refine wpList_append_own _ rfl _ _ 22 rfl (w.heap.size + 1) 5 i0 (.int .u8 0) 1 1 Try.underlying22 hi hz0 hz1 hz2 rfl (by decide) _ _ _ rfl (howr.alloc _) ⟨wr.heap.size, 0, none⟩ 1 1 [.int .u8 (x.toNat : Nat)] rfl rfl ?dc1 ?dc2 ?dc3 ?dc4 ?dc5 ?_))
          case dc1 =>
            intro j u hj
            match j, hj with
            | 0, hj => simp at hj; subst hj; simp [Addr.add]
          case dc2 => intro u hu; simp at hu; subst hu; rfl
          case dc3 => unfold maxLen; omega
          case dc4 => omega
          case dc5 => have := hbel.size; simp; omega
          intro v' w1 hown' hgrow _
          have hb2 : Below (w.heap.size + 1) W1 w1 := (hbel.alloc (by have := hbel.size; omega) _).grown hgrow (by have := hbel.size; simp; omega) (fun g hg => (howr.lt g hg).1)
          clear hgrow howr hbel hcr hownr
          go_wp2
          go_roundw
          case rel => exact ⟨k + 1, by omega, by go_num, by rw [htk.out, HST.out, List.length_append, bytesV_append]; exact hown', hb2⟩
          case measure => simp [intOf]; omega
        · have hst : encB p x = 37 :: hexL x.toNat := by unfold encB standsB; rw [if_neg (by simp [hs, hf])]
          have HST := Lib.hid hst
          clear hst
          go_wp2_with (first
            | (go_at_call 15; refine (free_int (x.toNat : Int) _).mono ?_; rintro e w' ⟨rfl, rfl⟩)
            | (go_at_call 16; refine (index_at _ (ownS p).data.toList _ _ x _ hownr (by simp)).mono ?_; rintro e w' ⟨rfl, rfl⟩)
            | (go_at_call 17; refine (write_any (w.heap.size + 1) _ L x.toNat _ hxb howr (by have := hbel.size; omega) (by omega)).mono ?_; rintro e w1 ⟨v', rfl, hown', hgrow⟩))
          have hb2 : Below (w.heap.size + 1) W1 w1 := hbel.grown hgrow (by have := hbel.size; omega) (fun g hg => (howr.lt g hg).1)
          clear hgrow howr hbel hcr hownr
          go_roundw
          case rel => exact ⟨k + 1, by omega, by go_num, by rw [htk.out, HST.out]; exact hown', hb2⟩
          case measure => simp [intOf]; omega
    · go_wp2
      go_ret
      obtain rfl : k = l.length := by omega
      rw [List.take_length] at howr
      refine ⟨_, rfl, ?_, hb1.trans (hbel.mono (by omega))⟩
      exact World.ownsRow.mono howr (by omega)

end Go.Proofs.Ytdmgbcpdkmljmaa
