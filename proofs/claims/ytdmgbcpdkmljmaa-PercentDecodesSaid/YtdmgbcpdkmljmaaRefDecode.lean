/-
  The reference's Decode, by a contract.
-/
import Derived.Test.YtdmgbcpdkmljmaaRefCanon
import Derived.Test.YtdmgbcpdkmljmaaDecode
namespace Go.Proofs.Ytdmgbcpdkmljmaa
open Go.RowKit

theorem decL_take (l : List (UInt8 × Bool)) (k : Nat) (hk : k < l.length) : decL (l.take (k + 1)) = decL (l.take k) ++ [l[k].1] := by
  rw [List.take_succ_eq_append_getElem hk, decL_snoc]

set_option maxHeartbeats 1000000 in
set_option maxRecDepth 100000 in
theorem refDecode_any (s : ByteArray) (w : World) (hs : s.size ≤ 65536) : Calls Try.prog 13 #[.string s] w (GaveS ((itemsS s.data.toList).map decL) w) := by
  have hit := items_any s w hs
  obtain ⟨i0, hi, hz0, hz1, hz2⟩ := info_parts info5
  generalize ho : itemsS s.data.toList = o at hit
  cases o with
  | none =>
    have HI := Lib.hid hit
    clear hit ho
    go_enter Try.func13, Try.ntmps13
    go_wp2_with fail
    refine HI.out.mono ?_
    rintro e w1 ⟨rfl, hb1⟩
    have hcv : (convert 22 9 (.slice (some ⟨w1.heap.size, 0, none⟩) 0 0)).run Try.prog (w1.alloc (.cells #[] 5)) = .ok (.string ⟨#[]⟩) (w1.alloc (.cells #[] 5)) := run_str (l := []) (.inl rfl) 0
    go_wp2_with fail
    refine wp_loop_rounds 1 ?_
    rw [rounds_succ]
    go_wp2
    go_ret2
    exact ⟨rfl, hb1.alloc hb1.size _⟩
  | some l =>
    have hll : l.length ≤ 65536 := by have := itemsS_length _ _ _ (Nat.le_refl _) ho; simp at this; have e : s.data.size = s.size := rfl; omega
    have HI := Lib.hid hit
    clear hit ho
    go_enter Try.func13, Try.ntmps13
    go_wp2_with fail
    refine HI.out.mono ?_
    rintro e w1 ⟨v, rfl, hown, hb1⟩
    obtain ⟨A, c, hv, hcells⟩ := items_cell hown
    rw [hv]
    have HC := Lib.hid hcells
    clear hcells hv hown HI
    have hown0 : (w1.alloc (.cells #[] 5)).ownsRow w1.heap.size 5 1 (.slice (some ⟨w1.heap.size, 0, none⟩) 0 0) 0 [] := ownsRow_empty (heap_alloc_new w1 _) (Nat.le_refl _)
    go_wp2_with fail
    go_loopw [6, 17] (fun v i wr => ∃ k : Nat, k ≤ l.length ∧ i = .int .i64 (k : Nat) ∧ wr.ownsRow w1.heap.size 5 1 v (decL (l.take k)).length (bytesV (decL (l.take k))) ∧ Below w1.heap.size w1 wr) (fun _ i _ => l.length - (intOf i).toNat)
    case atStart => exact ⟨0, Nat.zero_le _, rfl, hown0, (Below.refl _ w1).alloc (Nat.le_refl _) _⟩
    case round =>
      obtain ⟨k, hk, rfl, howr, hbel⟩ := hrel
      clear hown0
      by_cases hlt : k < l.length
      · obtain ⟨g, rfl, hg, hc0, hc1⟩ := HC.out k hlt
        have hc0' := (hbel.cell (p := ⟨g, k * 2, none⟩) hg).trans hc0
        have hc1' := (hbel.cell (p := ⟨g, k * 2 + 1, none⟩) hg).trans hc1
        have htk := decL_take l k hlt
        have hle : (decL (l.take k)).length ≤ k := by rw [decL_length]; exact List.length_take_le _ _
        clear hc0 hc1 HC
        generalize l[k] = t at htk hc0' hc1'
        obtain ⟨x, cd⟩ := t
        generalize decL (l.take k) = L at htk hle howr
        have HTK := Lib.hid htk
        clear htk
        go_wp2_with (at_builtin; refine wpList_append_own _ rfl _ _ 22 rfl w1.heap.size 5 i0 (.int .u8 0) 1 1 Try.underlying22 hi hz0 hz1 hz2 rfl (by decide) _ _ _ rfl (by exact (howr.alloc _).alloc _) ⟨wr.heap.size + 1, 0, none⟩ 1 1 [.int .u8 (x.toNat : Nat)] rfl rfl ?c1 ?c2 ?c3 ?c4 ?c5 ?_)
        case c2 => rfl
        case c3 => unfold maxLen; omega
        case c4 => omega
        case c5 => have := hbel.size; omega
        intro v' w2 hown' hgrow _
        have hbel2 := ((hbel.alloc hbel.size _).alloc (by have := hbel.size; simp; omega) _).grown hgrow (by have := hbel.size; simp; omega) (fun g hg => (howr.lt g hg).1)
        go_wp2
        refine ⟨⟨k + 1, by omega, by go_num, ?_, hbel2⟩, by simp [intOf]; omega⟩
        rw [HTK.out, List.length_append, bytesV_append]
        exact hown'
      · obtain rfl : k = l.length := by omega
        rw [List.take_length] at howr
        obtain ⟨C, c2, hv2, hC, _⟩ := BytesAt.of_own howr
        have hcv := run_str hC c2
        clear howr
        have HV2 := Lib.hid hv2
        clear hv2
        rw [HV2.out]
        go_wp2
        go_ret2
        exact ⟨rfl, hb1.trans (hbel.mono hb1.size)⟩

end Go.Proofs.Ytdmgbcpdkmljmaa
