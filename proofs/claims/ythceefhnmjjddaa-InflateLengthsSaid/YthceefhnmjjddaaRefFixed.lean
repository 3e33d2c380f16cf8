/-
  The document's tables of the fixed block, by a contract.
-/
import Derived.Test.YthceefhnmjjddaaRefSign
import Derived.Test.YthceefhnmjjddaaRefRepeat
import Derived.Test.YthceefhnmjjddaaRefDist
namespace Go.Proofs.Ythceefhnmjjddaa
open Go.RowKit

theorem NumsAt.src {w : World} {A : Option Addr} {l : List Nat} (h : NumsAt w A l) : Src w A (numsV l) := by
  rcases h with rfl | ⟨b, o, rfl, _, hc⟩
  · exact .inl rfl
  · refine .inr ⟨_, rfl, fun j u hu => ?_⟩
    have hj : j < l.length := by
      have := (List.getElem?_eq_some_iff.1 hu).1
      rwa [numsV_length] at this
    rw [addr_add, hc j hj]
    simp [numsV, hj] at hu
    rw [← hu]
    simp [hj]
theorem numsV_one (l : List Nat) : ∀ u ∈ numsV l, u.oneCell' = true := by
  intro u hu
  simp [numsV] at hu
  obtain ⟨x, _, rfl⟩ := hu
  rfl
theorem numsV_len (l : List Nat) {n : Nat} (h : l.length = n) : (numsV l).length = n * 1 := by rw [numsV_length]; omega
/-- Two texts of words. -/
structure TextsAt (w : World) (base g : Nat) (L : List Nat) : Prop where
  row : w.heap[g]? = some (.cells (textsV (wordsL L)).toArray 9 (0, 0))
  lo : base ≤ g
  ok : right L = true
  len : L.length ≤ 288
theorem TextsAt.below {w w' : World} {base g : Nat} {L : List Nat} (h : TextsAt w base g L) (hb : Below w.heap.size w w') : TextsAt w' base g L :=
  ⟨(hb.block g (Array.getElem?_eq_some_iff.1 h.row).1).trans h.row, h.lo, h.ok, h.len⟩
theorem TextsAt.only {S : List Nat} {w w' : World} {base g : Nat} {L : List Nat} (h : TextsAt w base g L) (hO : Only S w w') (hS : ∀ s ∈ S, s < base) : TextsAt w' base g L :=
  ⟨(hO.block g (Array.getElem?_eq_some_iff.1 h.row).1 (fun hm => by have := hS g hm; have := h.lo; omega)).trans h.row, h.lo, h.ok, h.len⟩
theorem TextsAt.base {w : World} {base base' g : Nat} {L : List Nat} (h : TextsAt w base g L) (hb : base' ≤ base) : TextsAt w base' g L := ⟨h.row, Nat.le_trans hb h.lo, h.ok, h.len⟩
theorem TextsAt.drewN {w : World} {base g : Nat} {L : List Nat} (h : TextsAt w base g L) (n : Nat) : TextsAt (w.drewN n) base g L := ⟨h.row, h.lo, h.ok, h.len⟩
/-- What tables gives. -/
def RTabled (o : Option (List Nat × List Nat × Nat)) (b : Nat) (A : Option Addr) (cap : Nat) (T : List UInt8) (w : World) (e : Ending) (w' : World) : Prop :=
  Only [b] w w' ∧ match o with
  | some (L1, L2, I') => ∃ g1 g2, e = .returned (.tuple #[.slice (some ⟨g1, 0, none⟩) L1.length L1.length, .slice (some ⟨g2, 0, none⟩) L2.length L2.length]) ∧ TextsAt w' w.heap.size g1 L1 ∧ TextsAt w' w.heap.size g2 L2 ∧ RAlive w' b A cap T I'
  | none => (∃ v1 v2, e = .returned (.tuple #[v1, v2])) ∧ RHalt w' b 2
theorem words_n (A : Option Addr) (n cap : Nat) (L : List Nat) (w : World) (h : NumsAt w A L) (hn : n = L.length) (hL : L.length ≤ 65536) (h15 : ∀ x ∈ L, x ≤ 15) :
    Calls Try.prog 14 #[.slice A n cap] w (Worded L w) := by subst hn; exact words_any A cap L w h hL h15
theorem fixL_parts : fixL = List.replicate 144 8 ++ List.replicate 112 9 ++ List.replicate 24 7 ++ List.replicate 8 8 := rfl
theorem RAlive.below {w w' : World} {b : Nat} {A : Option Addr} {cap : Nat} {T : List UInt8} {I : Nat} (h : RAlive w b A cap T I) (hb : Below w.heap.size w w') : RAlive w' b A cap T I := h.only (S := []) (Only.of_below hb) (by simp) (by simp)

set_option maxHeartbeats 2000000 in
set_option maxRecDepth 100000 in
theorem rtables_fixed (b : Nat) (A : Option Addr) (cap : Nat) (T : List UInt8) (I : Nat) (w : World) (h : RAlive w b A cap T I) :
    Calls Try.prog 24 #[.pointer (some ⟨b, 0, none⟩), .int .i64 1] w (RTabled (some (fixL, fixD, I)) b A cap T w) := by
  obtain ⟨i0, hi, hz0, hz1, hz2⟩ := info_parts info3
  go_enter Try.func24, Try.ntmps24
  go_wp2_with fail
  refine (rrepeat_any 8 144 144 _ rfl (by omega)).mono ?_
  rintro e w1 ⟨v1, rfl, hown1, hb1⟩
  go_wp2_with fail
  refine (rrepeat_any 9 112 112 _ rfl (by omega)).mono ?_
  rintro e w2 ⟨v2, rfl, hown2, hb2⟩
  have hown12 := own_below hown1 hb2
  obtain ⟨A1, c1, rfl⟩ := own_slice hown1
  obtain ⟨A2, c2, hv2, _, hn2, _⟩ := NumsAt.of_own (l := List.replicate 112 9) hown2
  replace hv2 : v2 = .slice A2 112 c2 := hv2
  subst hv2
  have hsrc2 := hn2.src
  have hb2' := hb1.trans (hb2.mono hb1.size)
  have hone2 := Lib.hid (numsV_one (List.replicate 112 9))
  have hlen2 := Lib.hid (numsV_len (List.replicate 112 9) (n := 112) (by rw [List.length_replicate]))
  have h632 := Lib.hid (le638 (show 144 + 112 ≤ 3000000 by omega))
  have hz2' := hb2'.size
  clear hown1 hown2 hb1 hb2 hn2
  go_wp2_with (at_builtin; go_loud (refine wpList_append_src _ rfl (.tmp 26) (.tmp 27) 28 rfl w.heap.size 3 i0 (.int .i64 0) 1 8 Try.underlying28 hi hz0 hz1 hz2 rfl (by decide) (.slice A1 144 c1) 144 (numsV (List.replicate 144 8)) rfl hown12 A2 112 c2 (numsV (List.replicate 112 9)) rfl hlen2.out hsrc2 hone2.out h632.out.1 h632.out.2 hz2' ?_; intro v3 w3 hown3 hgrow3; have hb3 := hb2'.grown hgrow3 hz2' (fun k hk => (hown12.lt k hk).1)))
  clear hgrow3 hown12 hsrc2 hb2'
  obtain ⟨A5, c5, rfl⟩ := own_slice hown3
  refine (rrepeat_any 7 24 24 _ rfl (by omega)).mono ?_
  rintro e w5 ⟨v5, rfl, hown5, hbb5⟩
  have hownL5 := own_below hown3 hbb5
  obtain ⟨B5, d5, hv5, _, hn5, _⟩ := NumsAt.of_own (l := List.replicate 24 7) hown5
  replace hv5 : v5 = .slice B5 24 d5 := hv5
  subst hv5
  have hsrc5 := hn5.src
  have hbe5 := hb3.trans (hbb5.mono hb3.size)
  have hone5 := Lib.hid (numsV_one (List.replicate 24 7))
  have hlen5 := Lib.hid (numsV_len (List.replicate 24 7) (n := 24) (by rw [List.length_replicate]))
  have h635 := Lib.hid (le638 (show 256 + 24 ≤ 3000000 by omega))
  have hz5 := hbe5.size
  clear hown5 hbb5 hn5 hown3 hb3
  go_wp2_with (at_builtin; go_loud (refine wpList_append_src _ rfl (.tmp 28) (.tmp 29) 28 rfl w.heap.size 3 i0 (.int .i64 0) 1 8 Try.underlying28 hi hz0 hz1 hz2 rfl (by decide) (.slice A5 256 c5) 256 (numsV (List.replicate 144 8) ++ numsV (List.replicate 112 9)) rfl hownL5 B5 24 d5 (numsV (List.replicate 24 7)) rfl hlen5.out hsrc5 hone5.out h635.out.1 h635.out.2 hz5 ?_; intro v6 w6 hown6 hgrow6; have hb6 := hbe5.grown hgrow6 hz5 (fun k hk => (hownL5.lt k hk).1)))
  clear hgrow6 hownL5 hsrc5 hbe5
  obtain ⟨A7, c7, rfl⟩ := own_slice hown6
  refine (rrepeat_any 8 8 8 _ rfl (by omega)).mono ?_
  rintro e w7 ⟨v7, rfl, hown7, hbb7⟩
  have hownL7 := own_below hown6 hbb7
  obtain ⟨B7, d7, hv7, _, hn7, _⟩ := NumsAt.of_own (l := List.replicate 8 8) hown7
  replace hv7 : v7 = .slice B7 8 d7 := hv7
  subst hv7
  have hsrc7 := hn7.src
  have hbe7 := hb6.trans (hbb7.mono hb6.size)
  have hone7 := Lib.hid (numsV_one (List.replicate 8 8))
  have hlen7 := Lib.hid (numsV_len (List.replicate 8 8) (n := 8) (by rw [List.length_replicate]))
  have h637 := Lib.hid (le638 (show 280 + 8 ≤ 3000000 by omega))
  have hz7 := hbe7.size
  clear hown7 hbb7 hn7 hown6 hb6
  go_wp2_with (at_builtin; go_loud (refine wpList_append_src _ rfl (.tmp 30) (.tmp 31) 28 rfl w.heap.size 3 i0 (.int .i64 0) 1 8 Try.underlying28 hi hz0 hz1 hz2 rfl (by decide) (.slice A7 280 c7) 280 (numsV (List.replicate 144 8) ++ numsV (List.replicate 112 9) ++ numsV (List.replicate 24 7)) rfl hownL7 B7 8 d7 (numsV (List.replicate 8 8)) rfl hlen7.out hsrc7 hone7.out h637.out.1 h637.out.2 hz7 ?_; intro v8 w8 hown8 hgrow8; have hb8 := hbe7.grown hgrow8 hz7 (fun k hk => (hownL7.lt k hk).1)))
  clear hgrow8 hownL7 hsrc7 hbe7
  have hownF : w8.ownsRow w.heap.size 3 1 v8 fixL.length (numsV fixL) := by
    rw [fixL_length, fixL_parts, numsV_append, numsV_append, numsV_append]
    exact hown8
  clear hown8
  obtain ⟨A9, c9, hv9, _, hn9, _⟩ := NumsAt.of_own hownF
  replace hv9 : v8 = .slice A9 288 c9 := by rw [hv9, fixL_length]
  subst hv9
  refine (words_n A9 288 c9 fixL _ hn9 fixL_length.symm (by rw [fixL_length]; omega) fixL_le).mono ?_
  rintro e w10 ⟨v10, rfl, hb10, hw10⟩
  obtain ⟨g1, rfl, hg1, hrow1⟩ := hw10 fixL_right
  have ht1 : TextsAt w10 w8.heap.size g1 fixL := ⟨hrow1, hg1, fixL_right, by rw [fixL_length]; omega⟩
  have hbt10 := hb8.trans (hb10.mono hb8.size)
  have hz8 := hb8.size
  clear hw10 hb8 hb10 hownF hn9 hrow1 hg1
  go_wp2_with fail
  refine (rrepeat_any 5 32 32 _ rfl (by omega)).mono ?_
  rintro e w11 ⟨v11, rfl, hown11, hb11⟩
  obtain ⟨A11, c11, hv11, _, hn11, _⟩ := NumsAt.of_own (l := List.replicate 32 5) hown11
  replace hv11 : v11 = .slice A11 32 c11 := hv11
  subst hv11
  have ht1' := ht1.below hb11
  have hbt11 := hbt10.trans (hb11.mono hbt10.size)
  clear ht1 hbt10 hb11 hown11
  go_wp2_with fail
  refine (words_n A11 32 c11 fixD _ hn11 fixD_length.symm (by rw [fixD_length]; omega) fixD_le).mono ?_
  rintro e w12 ⟨v12, rfl, hb12, hw12⟩
  obtain ⟨g2, rfl, hg2, hrow2⟩ := hw12 fixD_right
  have ht2 : TextsAt w12 w11.heap.size g2 fixD := ⟨hrow2, hg2, fixD_right, by rw [fixD_length]; omega⟩
  have ht1 := ht1'.below hb12
  have hbt12 := hbt11.trans (hb12.mono hbt11.size)
  have hz11 := hbt11.size
  clear hw12 hb12 hrow2 hg2 ht1' hbt11 hn11
  go_wp2
  go_ret2
  exact ⟨Only.of_below hbt12, g1, g2, rfl, ht1.base (by omega), ht2.base (by omega), h.below hbt12⟩

end Go.Proofs.Ythceefhnmjjddaa
