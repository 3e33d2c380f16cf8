/-
  'cordonlaw03.PercentEncodes' returns true whatever the bytes and the place; what was there stays as it was. ('lives' by its contract.)
-/
import Derived.Test.YtdmgbcpdkmljmaaRefEnc
import Derived.Test.YtdmgbcpdkmljmaaOwn
import Derived.Deep.DrawnRows
namespace Go.Proofs.Ytdmgbcpdkmljmaa
open Go.RowKit

def Lives : Prop := ∀ w : World, Calls Try.prog 7 #[] w fun e w' => e = .returned (.bool true) ∧ Below w.heap.size w w'

/-- What the last statement's worlds keep: both slices' bytes; what was there. -/
structure Rest (w0 : World) (A B : Option Addr) (l : List UInt8) (w : World) : Prop where
  a : BytesAt w A l
  b : BytesAt w B l
  below : Below w0.heap.size w0 w
theorem Rest.go {w0 w w' : World} {A B : Option Addr} {l : List UInt8} (h : Rest w0 A B l w) (hb : Below w.heap.size w w') : Rest w0 A B l w' :=
  ⟨h.a.below hb, h.b.below hb, h.below.trans (hb.mono h.below.size)⟩
theorem Rest.drewN {w0 w : World} {A B : Option Addr} {l : List UInt8} (h : Rest w0 A B l w) (q : Nat) : Rest w0 A B l (w.drewN q) := ⟨h.a, h.b, below_drewN h.below q⟩
theorem Rest.drew {w0 w : World} {A B : Option Addr} {l : List UInt8} (h : Rest w0 A B l w) : Rest w0 A B l w.drew := ⟨h.a, h.b, h.below.drew⟩

set_option maxHeartbeats 4000000 in
theorem encodes_any (HL : Lives) (A : Option Addr) (l : List UInt8) (n c : Nat) (p : Int) (w : World) (h : BytesAt w A l) (hn : n = l.length) (hm : n ≤ maxLen) :
    Calls Try.prog 3 #[.slice A n c, .int .i64 p] w fun e w' => e = .returned (.bool true) ∧ Below w.heap.size w w' := by
  unfold maxLen at hm
  obtain ⟨i0, hi, hz0, hz1, hz2⟩ := info_parts info5
  by_cases hl : 500 < n
  · have hl' : (500 : Int) < (n : Int) := by omega
    go_enter Try.func3, Try.ntmps3
    go_wp2_with fail
    refine (HL _).mono ?_
    rintro e w1 ⟨rfl, hb1⟩
    go_wp2_with fail
    refine (HL _).mono ?_
    rintro e w2 ⟨rfl, hb2⟩
    go_wp2
    go_ret
    exact ⟨rfl, hb1.trans (hb2.mono hb1.size)⟩
  · have hl' : (n : Int) ≤ 500 := by omega
    go_enter Try.func3, Try.ntmps3
    go_wp2_with fail
    refine (HL _).mono ?_
    rintro e w1 ⟨rfl, hb1⟩
    subst hn
    have hl1 : l.length ≤ 500 := by omega
    have h1 := h.below hb1
    go_wp2_with (at_builtin; refine wpList_append_src _ rfl (.tmp 14) (.tmp 15) 22 rfl w1.heap.size 5 i0 (.int .u8 0) 1 1 Try.underlying22 hi hz0 hz1 hz2 rfl (by decide) (.slice (some ⟨w1.heap.size, 0, none⟩) 0 0) 0 [] rfl (ownsRow_empty (heap_alloc_new w1 _) (Nat.le_refl _)) A l.length c (bytesV l) rfl (by simp [bytesV_length]) (h1.alloc _).src (bytesV_one l) (by unfold maxLen; omega) (by omega) (by simp) ?_; intro v' w2 hown2 hgrow2)
    obtain ⟨B, c2, hv, hB, _⟩ := BytesAt.of_own (l := l) (by simpa using hown2)
    have hbw : Below w1.heap.size w1 w2 := (((Below.refl _ w1).alloc (Nat.le_refl _) _).grown hgrow2 (by simp) (by simp [Value.ownBlock]))
    have hR : Rest w A B l w2 := ⟨h1.below hbw, hB, hb1.trans (hbw.mono hb1.size)⟩
    rw [hv]
    clear hown2 hgrow2 hv hB hbw h1 h hb1
    have hA' : ∀ W : World, Rest w A B l W → (convert 22 9 (.slice A l.length c)).run Try.prog W = .ok (.string ⟨l.toArray⟩) W := fun W hW => run_str hW.a c
    have hB' : ∀ W : World, Rest w A B l W → (convert 22 9 (.slice B l.length c2)).run Try.prog W = .ok (.string ⟨l.toArray⟩) W := fun W hW => run_str hW.b c2
    have HA := Lib.hid hA'
    have HB := Lib.hid hB'
    clear hA' hB'
    have a0 := HA.out _ hR.drew
    have b0 := HB.out _ hR.drew
    have a1 := fun n => HA.out _ (hR.drewN n)
    have b1 := fun n => HB.out _ (hR.drewN n)
    go_region_with (first
        | (go_at_call 8; refine (encode_any B l c2 p _ (by first | exact hR.drew.b | exact (hR.drewN _).b) (by omega)).mono ?_; rintro e w3 ⟨v3, rfl, hown3, hb3⟩; obtain ⟨C, c3, hv3, hC, _⟩ := BytesAt.of_own hown3; rw [hv3]; have hR3 : Rest w A B l w3 := (by first | exact hR.drew.go hb3 | exact (hR.drewN _).go hb3); have hcv := run_str hC c3; have hcq := fun q => run_str (hC.drewN q) c3; have a3 := HA.out _ hR3; have b3 := HB.out _ hR3; have aq := fun n => HA.out _ (hR3.drewN n); have bq := fun n => HB.out _ (hR3.drewN n); clear hown3 hb3 hv3)
        | (go_at_call 9; refine (refEncode_any _ p _ (by show l.toArray.size ≤ _; simp; omega)).mono ?_; rintro e w4 ⟨rfl, q, rfl⟩))
    all_goals go_wp2
    all_goals go_ret
    all_goals first | exact ⟨rfl, hR3.below⟩ | exact ⟨rfl, below_drewN hR3.below _⟩ | (refine ⟨ret_bool (by simp), ?_⟩; first | exact hR3.below | exact below_drewN hR3.below _)

end Go.Proofs.Ytdmgbcpdkmljmaa
