/-
  The reference's Canon and Decode, by contracts.
-/
import Derived.Test.YtdmgbcpdkmljmaaRefItems
namespace Go.Proofs.Ytdmgbcpdkmljmaa
open Go.RowKit

theorem free_same_all : ∀ n : Nat, n < 256 → refFree n.toUInt8 = freeI (n : Int) := by decide +kernel
theorem free_same (b : UInt8) : refFree b = freeI (b.toNat : Int) := by
  have := free_same_all b.toNat b.toNat_lt
  rwa [show b.toNat.toUInt8 = b by simp] at this

def stays (p : Int) (t : UInt8 × Bool) : Bool := t.2 && freeI (t.1.toNat : Int) || !t.2 && standsB p t.1
theorem canB_eq (p : Int) (t : UInt8 × Bool) : canB p t = if stays p t then [t.1] else 37 :: hexL t.1.toNat := by
  unfold canB stays encB
  cases t.2 <;> simp

/-- A text and whether it has the form. -/
def GaveS (o : Option (List UInt8)) (w : World) (e : Ending) (w' : World) : Prop :=
  match o with
  | some out => e = .returned (.tuple #[.string ⟨out.toArray⟩, .bool true]) ∧ Below w.heap.size w w'
  | none => e = .returned (.tuple #[.string ⟨#[]⟩, .bool false]) ∧ Below w.heap.size w w'

theorem itemsV_get (l : List (UInt8 × Bool)) (k : Nat) (hk : k < l.length) : (itemsV l)[k * 2]? = some (.int .u8 ((l[k]).1.toNat : Nat)) ∧ (itemsV l)[k * 2 + 1]? = some (.bool (l[k]).2) := by
  induction l generalizing k with
  | nil => simp at hk
  | cons t l ih =>
    have e : itemsV (t :: l) = .int .u8 (t.1.toNat : Nat) :: .bool t.2 :: itemsV l := rfl
    rw [e]
    rcases k with _ | k
    · exact ⟨rfl, rfl⟩
    · have := ih k (by simpa using hk)
      rw [show (k + 1) * 2 = k * 2 + 1 + 1 by omega]
      simpa using this

/-- The cells of a row of items. -/
theorem items_cell {w : World} {base : Nat} {v : Value} {l : List (UInt8 × Bool)} (h : w.ownsRow base 48 2 v l.length (itemsV l)) : ∃ A c, v = .slice A l.length c ∧
    ∀ k, (hk : k < l.length) → ∃ g, A = some ⟨g, 0, none⟩ ∧ g < w.heap.size ∧ w.cell? ⟨g, k * 2, none⟩ = some (.int .u8 ((l[k]).1.toNat : Nat)) ∧ w.cell? ⟨g, k * 2 + 1, none⟩ = some (.bool (l[k]).2) := by
  rcases h.2 with ⟨rfl, hn⟩ | ⟨g, cap, cur, rfl, hb, hg, hnc, hcm, hcs, htk⟩
  · exact ⟨none, 0, by rw [hn], fun k hk => by omega⟩
  · refine ⟨_, cap, rfl, fun k hk => ⟨g, rfl, (Array.getElem?_eq_some_iff.1 hg).1, ?_, ?_⟩⟩
    · have hv := (itemsV_get l k hk).1
      have hc := h.cells (g := g) rfl _ _ hv
      have hadd : (⟨g, 0, none⟩ : Addr).add (k * 2) = ⟨g, k * 2, none⟩ := by
        unfold Addr.add
        split
        · rename_i h; rw [h]
        · simp
      rw [hadd] at hc
      exact hc
    · have hv := (itemsV_get l k hk).2
      have hc := h.cells (g := g) rfl _ _ hv
      have hadd : (⟨g, 0, none⟩ : Addr).add (k * 2 + 1) = ⟨g, k * 2 + 1, none⟩ := by
        unfold Addr.add
        rw [if_neg (by omega)]
        simp
      rw [hadd] at hc
      exact hc

theorem canL_take (p : Int) (l : List (UInt8 × Bool)) (k : Nat) (hk : k < l.length) : canL p (l.take (k + 1)) = canL p (l.take k) ++ canB p l[k] := by
  rw [List.take_succ_eq_append_getElem hk, canL_snoc]

theorem itemsS_length : ∀ (n : Nat) (L : List UInt8) (l : List (UInt8 × Bool)), L.length ≤ n → itemsS L = some l → l.length ≤ L.length
  | _, [], l, _, h => by simp [itemsS] at h; subst h; simp
  | 0, _ :: _, _, hn, _ => by simp at hn
  | n + 1, x :: r, l, hn, h => by
    rcases way x r with ⟨_, hx⟩ | ⟨_, _, hx⟩ | ⟨v, s, _, hs1, _, hx⟩
    · rw [hx] at h; cases h
    · rw [hx] at h
      obtain ⟨l', hl', rfl⟩ := Option.map_eq_some_iff.1 h
      have := itemsS_length n r l' (by simp at hn; omega) hl'
      simp; omega
    · rw [hx] at h
      obtain ⟨l', hl', rfl⟩ := Option.map_eq_some_iff.1 h
      have := itemsS_length n s l' (by simp at hn; omega) hl'
      simp; omega

set_option maxHeartbeats 1000000 in
set_option maxRecDepth 100000 in
theorem refCanon_any (s : ByteArray) (p : Int) (w : World) (hs : s.size ≤ 65536) : Calls Try.prog 11 #[.string s, .int .i64 p] w (GaveS ((itemsS s.data.toList).map (canL p)) w) := by
  have hit := items_any s w hs
  generalize ho : itemsS s.data.toList = o at hit
  cases o with
  | none =>
    have HI := Lib.hid hit
    clear hit ho
    go_enter Try.func11, Try.ntmps11
    go_wp2_with fail
    refine HI.out.mono ?_
    rintro e w1 ⟨rfl, hb1⟩
    go_wp2_with fail
    refine wp_loop_rounds 1 ?_
    rw [rounds_succ]
    go_wp2
    go_ret2
    exact ⟨rfl, hb1⟩
  | some l =>
    have hll : l.length ≤ 65536 := by have := itemsS_length _ _ _ (Nat.le_refl _) ho; simp at this; have e : s.data.size = s.size := rfl; omega
    have HI := Lib.hid hit
    clear hit ho
    go_enter Try.func11, Try.ntmps11
    go_wp2_with fail
    refine HI.out.mono ?_
    rintro e w1 ⟨v, rfl, hown, hb1⟩
    obtain ⟨A, c, hv, hcells⟩ := items_cell hown
    rw [hv]
    have HC := Lib.hid hcells
    clear hcells hv hown HI
    go_wp2_with fail
    go_loopw [8, 18] (fun v i wr => ∃ k : Nat, k ≤ l.length ∧ i = .int .i64 (k : Nat) ∧ v = .string ⟨(canL p (l.take k)).toArray⟩ ∧ Below w1.heap.size w1 wr) (fun _ i _ => l.length - (intOf i).toNat)
    case atStart => exact ⟨0, Nat.zero_le _, rfl, rfl, Below.refl _ _⟩
    case round =>
      obtain ⟨k, hk, rfl, rfl, hbel⟩ := hrel
      by_cases hlt : k < l.length
      · obtain ⟨g, rfl, hg, hc0, hc1⟩ := HC.out k hlt
        have hc0' := (hbel.cell (p := ⟨g, k * 2, none⟩) hg).trans hc0
        have hc1' := (hbel.cell (p := ⟨g, k * 2 + 1, none⟩) hg).trans hc1
        have htk := canL_take p l k hlt
        have hle := canL_length p (l.take k)
        have htl : (l.take k).length ≤ k := List.length_take_le _ _
        have hcb := canB_eq p l[k]
        clear hc0 hc1 HC
        generalize l[k] = t at htk hc0' hc1' hcb
        obtain ⟨x, cd⟩ := t
        generalize canL p (l.take k) = L at htk hle
        have hL : L.length ≤ 3 * k := by omega
        clear hle htl
        have HTK := Lib.hid htk
        have hxl : (hexL x.toNat).length ≤ 2 := Nat.le_refl _
        have hx256 := x.toNat_lt
        clear htk
        have hone : BytesAt ((wr.alloc (.cells #[.int .u8 (x.toNat : Nat), .bool cd] 48)).alloc (.cells #[.int .u8 (x.toNat : Nat)] 5)) (some ⟨wr.heap.size + 1, 0, none⟩) [x] := by
          refine .inr ⟨_, 0, rfl, by simp, fun i hi => ?_⟩
          obtain rfl : i = 0 := by simpa using hi
          have := cell_of_row ((wr.alloc (.cells #[.int .u8 (x.toNat : Nat), .bool cd] 48)).alloc (.cells #[.int .u8 (x.toNat : Nat)] 5)) (wr.heap.size + 1) 0 _ _ _ (by have h := heap_alloc_new (wr.alloc (.cells #[.int .u8 (x.toNat : Nat), .bool cd] 48)) (.cells #[.int .u8 (x.toNat : Nat)] 5); rw [World.size_alloc] at h; exact h)
          exact this
        cases hst : stays p (x, cd)
        · rw [hst, if_neg (by simp)] at hcb
          have HCB := Lib.hid hcb
          clear hcb hone
          have hfin : Value.string (⟨L.toArray⟩ ++ ⟨#[37]⟩ ++ ⟨(hexL x.toNat).toArray⟩) = Value.string ⟨(canL p (l.take (k + 1))).toArray⟩ := by
            rw [HTK.out, HCB.out, append_one, append_mk, List.append_assoc]; rfl
          have HF := Lib.hid hfin
          clear hfin
          cases cd
          · have hfr : standsB p x = false := by simpa [stays] using hst
            have hr : refStands x p = false := by rw [stands_same]; exact hfr
            clear hst hfr
            go_wp2_with (first
              | (go_at_call 18; refine (stands_any x p _).mono ?_; rintro e w' ⟨rfl, rfl⟩)
              | (go_at_call 19; refine (hex_list x.toNat _ hx256).mono ?_; rintro e w' ⟨rfl, q1, rfl⟩))
            exact ⟨⟨k + 1, by omega, by go_num, HF.out, below_drewN (hbel.alloc hbel.size _) _⟩, by simp [intOf]; omega⟩
          · have hfr : freeI (x.toNat : Int) = false := by simpa [stays] using hst
            have hr : refFree x = false := by rw [free_same]; exact hfr
            clear hst hfr
            go_wp2_with (first
              | (go_at_call 22; refine (refFree_any x _).mono ?_; rintro e w' ⟨rfl, rfl⟩)
              | (go_at_call 19; refine (hex_list x.toNat _ hx256).mono ?_; rintro e w' ⟨rfl, q1, rfl⟩))
            exact ⟨⟨k + 1, by omega, by go_num, HF.out, below_drewN (hbel.alloc hbel.size _) _⟩, by simp [intOf]; omega⟩
        · rw [hst, if_pos rfl] at hcb
          have HCB := Lib.hid hcb
          clear hcb
          have hstr : (convert 22 9 (.slice (some ⟨wr.heap.size + 1, 0, none⟩) 1 1)).run Try.prog ((wr.alloc (.cells #[.int .u8 (x.toNat : Nat), .bool cd] 48)).alloc (.cells #[.int .u8 (x.toNat : Nat)] 5)) = .ok (.string ⟨#[x]⟩) ((wr.alloc (.cells #[.int .u8 (x.toNat : Nat), .bool cd] 48)).alloc (.cells #[.int .u8 (x.toNat : Nat)] 5)) := run_str hone 1
          have hfin : Value.string (⟨L.toArray⟩ ++ ⟨#[x]⟩) = Value.string ⟨(canL p (l.take (k + 1))).toArray⟩ := by
            rw [HTK.out, HCB.out, append_one]
          have HF := Lib.hid hfin
          clear hfin hone
          cases cd
          · have hfr : standsB p x = true := by simpa [stays] using hst
            have hr : refStands x p = true := by rw [stands_same]; exact hfr
            clear hst hfr
            go_wp2_with (go_at_call 18; refine (stands_any x p _).mono ?_; rintro e w' ⟨rfl, rfl⟩)
            exact ⟨⟨k + 1, by omega, by go_num, HF.out, (hbel.alloc hbel.size _).alloc (by have := hbel.size; simp; omega) _⟩, by simp [intOf]; omega⟩
          · have hfr : freeI (x.toNat : Int) = true := by simpa [stays] using hst
            have hr : refFree x = true := by rw [free_same]; exact hfr
            clear hst hfr
            go_wp2_with (go_at_call 22; refine (refFree_any x _).mono ?_; rintro e w' ⟨rfl, rfl⟩)
            exact ⟨⟨k + 1, by omega, by go_num, HF.out, (hbel.alloc hbel.size _).alloc (by have := hbel.size; simp; omega) _⟩, by simp [intOf]; omega⟩
      · go_wp2
        go_ret2
        obtain rfl : k = l.length := by omega
        rw [List.take_length]
        exact ⟨rfl, hb1.trans (hbel.mono hb1.size)⟩

end Go.Proofs.Ytdmgbcpdkmljmaa
