/-
  'cordonlaw39.InflateReads' returns true whatever the bytes; what was there stays as it was.
-/
import Derived.Test.YthceefhnmjjddaaRefInflate
import Derived.Test.YthceefhnmjjddaaLong
namespace Go.Proofs.Ythceefhnmjjddaa
open Go.RowKit

theorem rinflate_n (A : Option Addr) (n c : Nat) (T : List UInt8) (w : World) (h : BytesAt w A T) (hn : n = T.length) (hT : n ≤ 65536) : Calls Try.prog 10 #[.slice A n c] w (Inflated (inflateS T) w) := by subst hn; exact rinflate_any A c T w h hT
theorem copy_own {w : World} {base : Nat} {v : Value} {l : List UInt8} {xs : List Value} (h : w.ownsRow base 5 1 v (0 + l.length) (xs ++ bytesV l)) (hx : xs = []) : w.ownsRow base 5 1 v l.length (bytesV l) := by
  subst hx
  simpa using h
theorem str_nil (w : World) : (convert 22 9 (.slice none 0 0)).run Try.prog w = .ok (.string ⟨#[]⟩) w := run_str (BytesAt.nil w none) 0

set_option maxHeartbeats 1000000 in
set_option maxRecDepth 100000 in
theorem reads_any (A : Option Addr) (l : List UInt8) (n c : Nat) (w : World) (h : BytesAt w A l) (hn : n = l.length) (hm : n ≤ maxLen) :
    Calls Try.prog 3 #[.slice A n c] w fun e w' => e = .returned (.bool true) ∧ Below w.heap.size w w' := by
  unfold maxLen at hm
  obtain ⟨i0, hi, hz0, hz1, hz2⟩ := info_parts info5
  by_cases hl : 300 < n
  · have hl' : (300 : Int) < (n : Int) := by omega
    go_enter Try.func3, Try.ntmps3
    go_wp2_with fail
    refine (lives_any _).mono ?_
    rintro e w1 ⟨rfl, hb1⟩
    go_wp2_with fail
    refine (lives_any _).mono ?_
    rintro e w2 ⟨rfl, hb2⟩
    go_wp2
    go_ret
    exact ⟨rfl, hb1.trans (hb2.mono hb1.size)⟩
  · subst hn
    have hl' : (l.length : Int) ≤ 300 := by omega
    have hl3 : l.length ≤ 300 := by omega
    go_enter Try.func3, Try.ntmps3
    go_wp2_with fail
    refine (lives_any _).mono ?_
    rintro e w1 ⟨rfl, hb1⟩
    have h1 := h.below hb1
    have hb1a := (Below.refl _ w1).alloc (Nat.le_refl _) (.cells #[] 5)
    have h1a := h1.below hb1a
    have hsrc := h1a.src
    have hone := Lib.hid (bytesV_one l)
    have hlen := Lib.hid (show (bytesV l).length = l.length * 1 by rw [bytesV_length]; omega)
    have h63 := Lib.hid (le63_ (show 0 + l.length ≤ 3000000 by omega))
    have hownE : (w1.alloc (.cells #[] 5)).ownsRow w1.heap.size 5 1 (.slice (some ⟨w1.heap.size, 0, none⟩) 0 0) 0 [] := ownsRow_empty (heap_alloc_new w1 _) (Nat.le_refl _)
    clear h h1a
    go_wp2_with (at_builtin; go_loud (refine wpList_append_src _ rfl (.tmp 18) (.tmp 19) 22 rfl w1.heap.size 5 i0 (.int .u8 0) 1 1 Try.underlying22 hi hz0 hz1 hz2 rfl (by decide) (.slice (some ⟨w1.heap.size, 0, none⟩) 0 0) 0 [] rfl hownE A l.length c (bytesV l) rfl hlen.out hsrc hone.out h63.out.1 h63.out.2 (by simp) ?_; intro v3 w3 hown3 hgrow3))
    have hown3' := copy_own hown3 rfl
    have hb13 : Below w1.heap.size w1 w3 := hb1a.grown hgrow3 (by simp) (fun k hk => (hownE.lt k hk).1)
    obtain ⟨A3, c3, hv3, hB3, _⟩ := BytesAt.of_own hown3'
    have h3 := h1.below hb13
    have hb3 := hb1.trans (hb13.mono hb1.size)
    subst hv3
    clear hown3 hgrow3 hownE hsrc hb13 h1 hb1a
    refine (inflate_own hown3' (by omega)).mono ?_
    intro e w4 hinf
    have hiff : Hid (∃ o, inflateS l = o) := Lib.hid ⟨_, rfl⟩
    obtain ⟨o, ho⟩ := hiff.out
    rw [ho] at hinf
    have HOO := Lib.hid ho
    clear ho hiff
    rcases o with k | ⟨out, I⟩
    · obtain ⟨rfl, hb4⟩ := inflated_nil rfl hinf
      have h4 := h3.below hb4
      have hB4 := hB3.below hb4
      have hb4' := hb3.trans (hb4.mono hb3.size)
      clear hinf h3 hB3 hown3' hb4
      go_wp2_with fail
      refine (rinflate_n A l.length c l _ h4 rfl (by omega)).mono ?_
      rw [HOO.out]
      intro e w5 hinf
      obtain ⟨rfl, hb5⟩ := inflated_nil rfl hinf
      have hn5 := str_nil w5
      have hc1 := run_str (hB4.below hb5) c3
      have hc2 := run_str (h4.below hb5) c
      clear hinf
      go_wp2
      go_ret
      exact ⟨rfl, hb4'.trans (hb5.mono hb4'.size)⟩
    · obtain ⟨A4, c4, rfl, hC4, hb4⟩ := inflated_yes rfl hinf
      have h4 := h3.below hb4
      have hB4 := hB3.below hb4
      have hb4' := hb3.trans (hb4.mono hb3.size)
      obtain ⟨m, hme⟩ : ∃ m, (I + 7) / 8 = m := ⟨_, rfl⟩
      rw [hme]
      have HME := Lib.hid hme
      clear hinf h3 hB3 hown3' hb4 hme
      go_wp2_with fail
      refine (rinflate_n A l.length c l _ h4 rfl (by omega)).mono ?_
      rw [HOO.out]
      intro e w5 hinf
      obtain ⟨A5, c5, rfl, hC5, hb5⟩ := inflated_yes rfl hinf
      rw [HME.out]
      have hc0 := run_str (hC4.below hb5) c4
      have hcn := run_str hC5 c5
      have hc1 := run_str (hB4.below hb5) c3
      have hc2 := run_str (h4.below hb5) c
      clear hinf
      go_wp2
      go_ret
      exact ⟨rfl, hb4'.trans (hb5.mono hb4'.size)⟩

end Go.Proofs.Ythceefhnmjjddaa
