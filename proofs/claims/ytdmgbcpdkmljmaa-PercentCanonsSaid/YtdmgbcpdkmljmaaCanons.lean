/-
  'cordonlaw03.PercentCanons' returns true whatever the text and the place; what was there stays as it was.
-/
import Derived.Test.YtdmgbcpdkmljmaaRefCanon
import Derived.Test.YtdmgbcpdkmljmaaLives
namespace Go.Proofs.Ytdmgbcpdkmljmaa
open Go.RowKit

set_option maxHeartbeats 400000 in
theorem canons_any (A : Option Addr) (l : List UInt8) (n c : Nat) (p : Int) (w : World) (h : BytesAt w A l) (hn : n = l.length) (hc : n ≤ c) (hm : n ≤ maxLen) :
    Calls Try.prog 4 #[.slice A n c, .int .i64 p] w fun e w' => e = .returned (.bool true) ∧ Below w.heap.size w w' := by
  unfold maxLen at hm
  by_cases hl : 300 < n
  · have hl' : (300 : Int) < (n : Int) := by omega
    go_enter Try.func4, Try.ntmps4
    go_wp2_with fail
    refine (lives_any _).mono ?_
    rintro e w1 ⟨rfl, hb1⟩
    go_wp2_with fail
    refine (lives_any _).mono ?_
    rintro e w2 ⟨rfl, hb2⟩
    go_wp2
    go_ret
    exact ⟨rfl, hb1.trans (hb2.mono hb1.size)⟩
  · have hl' : (n : Int) ≤ 300 := by omega
    have hl3 : l.length ≤ 300 := by omega
    have HN := Lib.hid hn
    clear hn
    go_enter Try.func4, Try.ntmps4
    go_wp2_with fail
    refine (lives_any _).mono ?_
    rintro e w1 ⟨rfl, hb1⟩
    have h1 := h.below hb1
    go_wp2_with fail
    have hcan := canon_any A l n c p w1 h1 HN.out hc (by omega)
    have href := fun W => refCanon_any ⟨l.toArray⟩ p W (by show l.toArray.size ≤ _; simp; omega)
    simp only at href
    generalize (itemsS l).map (canL p) = o at hcan href
    have HR := Lib.hid href
    clear href
    cases o with
    | none =>
      refine hcan.mono ?_
      rintro e w2 ⟨rfl, hb2⟩
      have hcv : (convert 22 9 (.slice A n c)).run Try.prog w2 = .ok (.string ⟨l.toArray⟩) w2 := by rw [HN.out]; exact run_str (h1.below hb2) c
      go_wp2_with fail
      refine (HR.out _).mono ?_
      rintro e w3 ⟨rfl, hb3⟩
      go_wp2
      go_ret
      exact ⟨rfl, (hb1.trans (hb2.mono hb1.size)).trans (hb3.mono (Nat.le_trans hb1.size hb2.size))⟩
    | some out =>
      refine hcan.mono ?_
      rintro e w2 ⟨v, rfl, hown, hb2⟩
      obtain ⟨C, c2, hv, hC, _⟩ := BytesAt.of_own hown
      rw [hv]
      have hcv : (convert 22 9 (.slice A n c)).run Try.prog w2 = .ok (.string ⟨l.toArray⟩) w2 := by rw [HN.out]; exact run_str (h1.below hb2) c
      go_wp2_with fail
      refine (HR.out _).mono ?_
      rintro e w3 ⟨rfl, hb3⟩
      have hcv2 := run_str (hC.below hb3) c2
      go_wp2
      go_ret
      exact ⟨rfl, (hb1.trans (hb2.mono hb1.size)).trans (hb3.mono (Nat.le_trans hb1.size hb2.size))⟩

end Go.Proofs.Ytdmgbcpdkmljmaa
