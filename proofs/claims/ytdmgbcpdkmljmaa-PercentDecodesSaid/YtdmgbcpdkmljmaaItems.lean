/-
  A text's items (plain law); read at every text; a slice cut at its front.
-/
import Derived.Test.YtdmgbcpdkmljmaaRead
import Derived.Test.YtdmgbcpdkmljmaaOwn
namespace Go.Proofs.Ytdmgbcpdkmljmaa
open Go.RowKit

/-- A text's bytes, each with whether it was encoded; none: it has no form. -/
def itemsS : List UInt8 → Option (List (UInt8 × Bool))
  | [] => some []
  | [x] => if x = 37 then none else some [(x, false)]
  | [x, y] => if x = 37 then none else (itemsS [y]).map ((x, false) :: ·)
  | x :: y :: z :: r => if x = 37 then (if digN y < 0 ∨ digN z < 0 then none else (itemsS r).map (((16 * (digN y).toNat + (digN z).toNat).toUInt8, true) :: ·)) else (itemsS (y :: z :: r)).map ((x, false) :: ·)

theorem itemsS_none (x : UInt8) (r : List UInt8) (h : (readV x r).2 = 0) : itemsS (x :: r) = none := by
  unfold readV at h
  by_cases hx : x = 37
  · rw [if_neg (by simp [hx])] at h
    match r with
    | [] => simp [itemsS, hx]
    | [y] => simp [itemsS, hx]
    | y :: z :: r =>
      simp only at h
      by_cases hd : digN y < 0 ∨ digN z < 0
      · simp [itemsS, hx, hd]
      · rw [if_neg hd] at h; cases h
  · rw [if_pos hx] at h; cases h
theorem itemsS_plain (x : UInt8) (r : List UInt8) (h : x ≠ 37) : itemsS (x :: r) = (itemsS r).map ((x, false) :: ·) := by
  match r with
  | [] => simp [itemsS, h]
  | [y] => simp [itemsS, h]
  | y :: z :: r => rw [itemsS, if_neg h]
theorem itemsS_coded (y z : UInt8) (r : List UInt8) (h : ¬ (digN y < 0 ∨ digN z < 0)) : itemsS (37 :: y :: z :: r) = (itemsS r).map (((16 * (digN y).toNat + (digN z).toNat).toUInt8, true) :: ·) := by
  rw [itemsS, if_pos rfl, if_neg h]

/-- A round of reading: the three ways. -/
inductive Way (x : UInt8) (r : List UInt8) : Prop where
  | bad : readV x r = (0, 0) → itemsS (x :: r) = none → Way x r
  | plain : readV x r = (x, 1) → x ≠ 37 → itemsS (x :: r) = (itemsS r).map ((x, false) :: ·) → Way x r
  | coded (v : UInt8) (s : List UInt8) : readV x r = (v, 3) → r.length = s.length + 2 → (x :: r).drop 3 = s → itemsS (x :: r) = (itemsS s).map ((v, true) :: ·) → Way x r
theorem way (x : UInt8) (r : List UInt8) : Way x r := by
  by_cases hx : x = 37
  · subst hx
    match r with
    | [] => exact .bad (by simp [readV]) (by simp [itemsS])
    | [y] => exact .bad (by simp [readV]) (by simp [itemsS])
    | y :: z :: r =>
      by_cases hd : digN y < 0 ∨ digN z < 0
      · exact .bad (by simp [readV, hd]) (by simp [itemsS, hd])
      · exact .coded _ r (by simp [readV, hd]) rfl rfl (itemsS_coded y z r hd)
  · exact .plain (by simp [readV, hx]) hx (itemsS_plain x r hx)

theorem read_any (b o : Nat) (x : UInt8) (r : List UInt8) (n c : Nat) (w : World) (h : BytesAt w (some ⟨b, o, none⟩) (x :: r)) (hn : n = r.length + 1) :
    Calls Try.prog 20 #[.slice (some ⟨b, o, none⟩) n c] w fun e w' => e = .returned (.tuple #[.int .u8 ((readV x r).1.toNat : Nat), .int .i64 ((readV x r).2 : Nat)]) ∧ Below w.heap.size w w' := by
  by_cases hx : x = 37
  · subst hx
    match r, h, hn with
    | [], h, hn => exact (read_short b o [] n c w h hn (by simp)).mono fun e w' ⟨he, hw⟩ => ⟨he, hw ▸ Below.refl _ _⟩
    | [y], h, hn => exact (read_short b o [y] n c w h hn (by simp)).mono fun e w' ⟨he, hw⟩ => ⟨he, hw ▸ Below.refl _ _⟩
    | y :: z :: r, h, hn => exact read_coded b o y z r n c w h (by rw [hn]; rfl)
  · have hv : readV x r = (x, 1) := by simp [readV, hx]
    rw [hv]
    exact (read_plain b o x r n c w h hn hx).mono fun e w' ⟨he, hw⟩ => ⟨he, hw ▸ Below.refl _ _⟩

/-- Where a slice lies whose first k are cut off. -/
def cutOff (o c k : Nat) : Nat := if c = k then o else o + k
theorem sizeOf5 (w : World) : (sizeOf 5).run Try.prog w = .ok 1 w := by
  obtain ⟨i0, hi, hz0, hz1, hz2⟩ := info_parts info5
  simp [sizeOf, typeInfo, hi, hz1]
theorem run_cut (W : World) (b o n c k : Nat) (i : Int) (hi : i = (k : Int)) (hk : k ≤ n) :
    (Instr.slice 22 (.slice (some ⟨b, o, none⟩) n c) (some (.int .i64 i)) none none).run Try.prog W = .ok (.slice (some ⟨b, cutOff o c k, none⟩) (n - k) (c - k)) W := by
  subst hi
  have ht' : Try.prog.underlying 22 = some (.slice (Try.prog.elem 22)) := by simp [Program.elem, Try.underlying22]
  have he : Try.prog.elem 22 = 5 := by simp [Program.elem, Try.underlying22]
  rw [run_slice_l W 22 _ _ _ ht' .i64 _ (by omega) (by omega), he, sizeOf5]
  unfold cutOff
  by_cases h0 : c = k
  · simp [Result.andThen, sliced, h0]
  · by_cases h1 : k = 0
    · subst h1; simp [Result.andThen, sliced, Addr.add]
    · simp [Result.andThen, sliced, Addr.add, h0, h1]
theorem BytesAt.cut {w : World} {b o : Nat} {l : List UInt8} (h : BytesAt w (some ⟨b, o, none⟩) l) (c k : Nat) (hc : l.length ≤ c) : BytesAt w (some ⟨b, cutOff o c k, none⟩) (l.drop k) := by
  by_cases hk : l.length ≤ k
  · exact .inl (List.drop_eq_nil_of_le hk)
  · rcases h with rfl | ⟨b', o', e, hb, hcell⟩
    · simp at hk
    · injection e with e
      injection e with e1 e2
      subst e1 e2
      refine .inr ⟨b, _, rfl, hb, fun i hi => ?_⟩
      rw [List.length_drop] at hi
      unfold cutOff
      rw [if_neg (by omega)]
      have := hcell (k + i) (by omega)
      rw [show o + k + i = o + (k + i) by omega, this]
      simp [List.getD_eq_getElem?_getD, List.getElem?_drop]

theorem BytesAt.cut_front {w : World} {A : Option Addr} {l : List UInt8} (h : BytesAt w A l) (k : Nat) : BytesAt w A (l.take k) := by
  rcases h with rfl | ⟨b, o, e, hb, hc⟩
  · exact .inl (by simp)
  · refine .inr ⟨b, o, e, hb, fun i hi => ?_⟩
    rw [List.length_take] at hi
    rw [hc i (by omega)]
    simp only [List.getD_eq_getElem?_getD, List.getElem?_take]
    rw [if_pos (by omega)]

theorem own_below {w w' : World} {base : Nat} {e : TypeId} {size : Nat} {v : Value} {n : Nat} {xs : List Value} (h : w.ownsRow base e size v n xs) (hb : Below w.heap.size w w') : w'.ownsRow base e size v n xs := by
  refine ⟨h.1, ?_⟩
  rcases h.2 with h2 | ⟨g, cap, cur, hv, hg, hh, r⟩
  · exact .inl h2
  · exact .inr ⟨g, cap, cur, hv, hg, (hb.block g (Array.getElem?_eq_some_iff.1 hh).1).trans hh, r⟩

end Go.Proofs.Ytdmgbcpdkmljmaa
