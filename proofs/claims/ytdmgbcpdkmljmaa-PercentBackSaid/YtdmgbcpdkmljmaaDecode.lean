/-
  percent.Decode, by a contract.
-/
import Derived.Test.YtdmgbcpdkmljmaaCanon
namespace Go.Proofs.Ytdmgbcpdkmljmaa
open Go.RowKit

def decL (l : List (UInt8 × Bool)) : List UInt8 := l.map (·.1)
theorem decL_snoc (l : List (UInt8 × Bool)) (t : UInt8 × Bool) : decL (l ++ [t]) = decL l ++ [t.1] := by simp [decL]
theorem decL_length (l : List (UInt8 × Bool)) : (decL l).length = l.length := by simp [decL]
theorem items_endD {l : List UInt8} {done : List (UInt8 × Bool)} (h : itemsS l = (itemsS []).map (done ++ ·)) : (itemsS l).map decL = some (decL done) := by
  rw [h]; simp [itemsS]

set_option maxHeartbeats 1000000 in
set_option maxRecDepth 100000 in
theorem decode_any (A : Option Addr) (l : List UInt8) (n c : Nat) (w : World) (h : BytesAt w A l) (hn : n = l.length) (hc : n ≤ c) (hl : l.length ≤ 65536) :
    Calls Try.prog 12 #[.slice A n c] w (Gave ((itemsS l).map decL) w) := by
  obtain ⟨i0, hi, hz0, hz1, hz2⟩ := info_parts info5
  have hown0 : w.ownsRow w.heap.size 5 1 (.slice none 0 0) 0 [] := World.ownsRow_nil _ _ _ _
  go_enter Try.func12, Try.ntmps12
  go_wp2
  go_loopw [0, 4] (fun t v wr => ∃ (A' : Option Addr) (m c' : Nat) (rest : List UInt8) (done : List (UInt8 × Bool)), t = .slice A' m c' ∧ m = rest.length ∧ m ≤ c' ∧ BytesAt w A' rest ∧
      done.length + rest.length ≤ l.length ∧ itemsS l = (itemsS rest).map (done ++ ·) ∧ wr.ownsRow w.heap.size 5 1 v (decL done).length (bytesV (decL done)) ∧ Below w.heap.size w wr) (fun t _ _ => lenOf t)
  case atStart => exact ⟨A, n, c, l, [], rfl, hn, hc, h, by simp, by simp, hown0, Below.refl _ _⟩
  case round =>
    obtain ⟨A', m, c', rest, done, rfl, hm, hmc, hB, hlen, hit, howr, hbel⟩ := hrel
    have HM := Lib.hid hm
    have HIT := Lib.hid hit
    clear hm hit h hn hc hown0
    have hcl : (decL done).length ≤ done.length := Nat.le_of_eq (decL_length done)
    rcases rest with _ | ⟨x, r⟩
    · have hm0 : m = 0 := HM.out
      clear HM
      subst hm0
      go_wp2
      go_ret2
      exact gave_some (items_endD HIT.out) howr hbel
    · have hpos : (0 : Int) < (m : Int) := by have := HM.out; simp at this; omega
      obtain ⟨b, o, rfl⟩ : ∃ b o, A' = some ⟨b, o, none⟩ := by
        rcases hB with h0 | ⟨b, o, e, _⟩
        · cases h0
        · exact ⟨b, o, e⟩
      go_wp2_with fail
      refine (read_any b o x r m c' _ (by exact hB.below hbel) (by have := HM.out; simpa using this)).mono ?_
      rintro e w1 ⟨rfl, hb1⟩
      have how1 := own_below howr hb1
      have hbel1 := hbel.trans (hb1.mono hbel.size)
      clear howr hbel hb1
      rcases way x r with ⟨hr, hx⟩ | ⟨hr, hx37, hx⟩ | ⟨v, s, hr, hs1, hs2, hx⟩
      · rw [hr]
        go_wp2
        go_ret2
        exact gave_none (by rw [items_bad HIT.out hx]; rfl) hbel1
      · rw [hr]
        simp only [List.length_cons] at hlen
        have hcut := fun W => run_cut W b o m c' 1 1 rfl (by omega)
        go_wp2_with fail
        go_region_held3 (fun _ => True) (trivial)
          (first | (refine step_append_lies _ (by rfl) _ _ _ (by rfl) w.heap.size 5 i0 _ 1 1 Try.underlying22 hi hz0 hz1 hz2 rfl (by omega) _ (decL done).length (bytesV (decL done)) (by rfl) ((how1.alloc _).drew) ⟨w1.heap.size, 0, none⟩ 1 1 [.int .u8 (x.toNat : Nat)] (by rfl) (by rfl) (World.news_of_block (cs := #[.int .u8 (x.toNat : Nat)]) (t := 5) (fr := (0, 0)) (heap_alloc_new w1 _)) (by simp [Value.oneCell']) (by omega) (by unfold maxLen; omega) (by omega) (by have := hbel1.size; simp; omega) (w1.heap.size + 1) (by simp) ?_; intro gg cap w2 hown2 hgrow2 hat hlt))
        go_wp2
        have hbel3 := (hbel1.alloc hbel1.size _).drew.grown hgrow2 (by have := hbel1.size; simp; omega) (fun g hg => (how1.lt g hg).1)
        have hm1 : m = r.length + 1 := by have := HM.out; simpa using this
        refine ⟨⟨_, m - 1, c' - 1, r, done ++ [(x, false)], rfl, by omega, by omega, hB.cut c' 1 (by simp; omega), by simp; omega, items_step HIT.out hx, ?_, hbel3⟩, by simp [lenOf]; omega⟩
        rw [decL_snoc, List.length_append, bytesV_append]
        exact hown2
      · rw [hr]
        have hm3 : m = s.length + 3 := by have := HM.out; simp at this; omega
        have hcut := fun W => run_cut W b o m c' 3 3 rfl (by omega)
        have hBs := hB.cut c' 3 (by have := HM.out; omega)
        rw [hs2] at hBs
        simp only [List.length_cons, hs1] at hlen
        have HM3 := Lib.hid hm3
        clear hm3
        go_wp2_with fail
        go_region_held3 (fun _ => True) (trivial)
          (first | (refine step_append_lies _ (by rfl) _ _ _ (by rfl) w.heap.size 5 i0 _ 1 1 Try.underlying22 hi hz0 hz1 hz2 rfl (by omega) _ (decL done).length (bytesV (decL done)) (by rfl) ((how1.alloc _).drew) ⟨w1.heap.size, 0, none⟩ 1 1 [.int .u8 (v.toNat : Nat)] (by rfl) (by rfl) (World.news_of_block (cs := #[.int .u8 (v.toNat : Nat)]) (t := 5) (fr := (0, 0)) (heap_alloc_new w1 _)) (by simp [Value.oneCell']) (by omega) (by unfold maxLen; omega) (by omega) (by have := hbel1.size; simp; omega) (w1.heap.size + 1) (by simp) ?_; intro gg cap w2 hown2 hgrow2 hat hlt))
        go_wp2
        have hbel3 := (hbel1.alloc hbel1.size _).drew.grown hgrow2 (by have := hbel1.size; simp; omega) (fun g hg => (how1.lt g hg).1)
        refine ⟨⟨_, m - 3, c' - 3, s, done ++ [(v, true)], rfl, by have := HM3.out; omega, by omega, hBs, by simp; omega, items_step HIT.out hx, ?_, hbel3⟩, by simp [lenOf]; have := HM3.out; omega⟩
        rw [decL_snoc, List.length_append, bytesV_append]
        exact hown2

end Go.Proofs.Ytdmgbcpdkmljmaa
