/-
  'cordonlaw03.PercentDecodes' returns true whatever the text; what was there stays as it was.
-/
import Derived.Test.YtdmgbcpdkmljmaaRefDecode
import Derived.Test.YtdmgbcpdkmljmaaLives
namespace Go.Proofs.Ytdmgbcpdkmljmaa
open Go.RowKit

theorem own_cap {w : World} {base : Nat} {A : Option Addr} {n c : Nat} {xs : List Value} (h : w.ownsRow base 5 1 (.slice A n c) n xs) : n ≤ c := by
  rcases h.2 with ⟨hv, _⟩ | ⟨g, cap, cur, hv, hb, hg, hnc, r⟩
  · injection hv with _ h1 h2
    omega
  · injection hv with _ h1 h2
    omega

set_option maxHeartbeats 400000 in
theorem decodes_any (A : Option Addr) (l : List UInt8) (n c : Nat) (w : World) (h : BytesAt w A l) (hn : n = l.length) (hc : n ≤ c) (hm : n ≤ maxLen) :
    Calls Try.prog 5 #[.slice A n c] w fun e w' => e = .returned (.bool true) ∧ Below w.heap.size w w' := by
  unfold maxLen at hm
  obtain ⟨i0, hi, hz0, hz1, hz2⟩ := info_parts info5
  by_cases hl : 300 < n
  · have hl' : (300 : Int) < (n : Int) := by omega
    go_enter Try.func5, Try.ntmps5
    go_wp2_with fail
    refine (lives_any _).mono ?_
    rintro e w1 ⟨rfl, hb1⟩
    go_wp2_with fail
    refine (lives_any _).mono ?_
    rintro e w2 ⟨rfl, hb2⟩
    go_wp2
    go_ret
    exact ⟨rfl, hb1.trans (hb2.mono hb1.size)⟩
  · subst hn
    have hl' : (l.length : Int) ≤ 300 := by omega
    have hl3 : l.length ≤ 300 := by omega
    go_enter Try.func5, Try.ntmps5
    go_wp2_with fail
    refine (lives_any _).mono ?_
    rintro e w1 ⟨rfl, hb1⟩
    have h1 := h.below hb1
    go_wp2_with (at_builtin; refine wpList_append_src _ rfl (.tmp 16) (.tmp 17) 22 rfl w1.heap.size 5 i0 (.int .u8 0) 1 1 Try.underlying22 hi hz0 hz1 hz2 rfl (by decide) (.slice (some ⟨w1.heap.size, 0, none⟩) 0 0) 0 [] rfl (ownsRow_empty (heap_alloc_new w1 _) (Nat.le_refl _)) A l.length c (bytesV l) rfl (by simp [bytesV_length]) (h1.alloc _).src (bytesV_one l) (by unfold maxLen; omega) (by omega) (by simp) ?_; intro v' w2 hown2 hgrow2)
    obtain ⟨B, c2, hv, hB, _⟩ := BytesAt.of_own (l := l) (by simpa using hown2)
    have hc2 : l.length ≤ c2 := by rw [hv] at hown2; exact own_cap (by simpa using hown2)
    have hbw : Below w1.heap.size w1 w2 := (((Below.refl _ w1).alloc (Nat.le_refl _) _).grown hgrow2 (by simp) (by simp [Value.ownBlock]))
    have h2 := h1.below hbw
    have hb2 := hb1.trans (hbw.mono hb1.size)
    rw [hv]
    clear hown2 hgrow2 hv hbw h1 h hb1
    have hdec := decode_any B l l.length c2 w2 hB rfl hc2 (by omega)
    have href := fun W => refDecode_any ⟨l.toArray⟩ W (by show l.toArray.size ≤ _; simp; omega)
    simp only at href
    generalize (itemsS l).map decL = o at hdec href
    have HD := Lib.hid hdec
    have HR := Lib.hid href
    clear href hdec
    go_wp2_with fail
    cases o with
    | none =>
      refine HD.out.mono ?_
      rintro e w3 ⟨rfl, hb3⟩
      have hcv := run_str (h2.below hb3) c
      go_wp2_with fail
      refine (HR.out _).mono ?_
      rintro e w4 ⟨rfl, hb4⟩
      have hcv2 := run_str ((h2.below hb3).below hb4) c
      have hcv3 := run_str ((hB.below hb3).below hb4) c2
      go_wp2
      go_ret
      exact ⟨rfl, (hb2.trans (hb3.mono hb2.size)).trans (hb4.mono (Nat.le_trans hb2.size hb3.size))⟩
    | some out =>
      refine HD.out.mono ?_
      rintro e w3 ⟨v, rfl, hown, hb3⟩
      obtain ⟨C, c3, hv, hC, _⟩ := BytesAt.of_own hown
      rw [hv]
      have hcv := run_str (h2.below hb3) c
      go_wp2_with fail
      refine (HR.out _).mono ?_
      rintro e w4 ⟨rfl, hb4⟩
      have hcv2 := run_str ((h2.below hb3).below hb4) c
      have hcv3 := run_str ((hB.below hb3).below hb4) c2
      have hcv4 := run_str (hC.below hb4) c3
      go_wp2
      go_ret
      exact ⟨rfl, (hb2.trans (hb3.mono hb2.size)).trans (hb4.mono (Nat.le_trans hb2.size hb3.size))⟩

end Go.Proofs.Ytdmgbcpdkmljmaa
