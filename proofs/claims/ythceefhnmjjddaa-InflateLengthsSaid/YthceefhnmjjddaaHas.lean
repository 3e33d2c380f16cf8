/-
  'slices.ContainsFunc' with the closure of 'Lengths': is a length out of its range.
-/
import Derived.Test.YthceefhnmjjddaaRefWords
namespace Go.Proofs.Ythceefhnmjjddaa
open Go.RowKit

/-- The slice at A holds these numbers. -/
def IntsL (w : World) (A : Option Addr) (zs : List Int) : Prop :=
  zs = [] ∨ ∃ b o, A = some ⟨b, o, none⟩ ∧ b < w.heap.size ∧ ∀ i, i < zs.length → w.cell? ⟨b, o + i, none⟩ = some (.int .i64 (zs.getD i 0))
theorem IntsL.below {w w' : World} {A : Option Addr} {zs : List Int} (h : IntsL w A zs) (hb : Below w.heap.size w w') : IntsL w' A zs := by
  rcases h with h | ⟨b, o, e, hlt, hc⟩
  · exact .inl h
  · exact .inr ⟨b, o, e, Nat.lt_of_lt_of_le hlt hb.size, fun i hi => (hb.cell (p := ⟨b, o + i, none⟩) hlt).trans (hc i hi)⟩
def badZ (n : Int) : Bool := decide (n < 0) || decide (15 < n)

theorem bad_any (n : Int) (w : World) : Calls Try.prog 29 #[.int .i64 n] w fun e w' => e = .returned (.bool (badZ n)) ∧ w' = w := by
  by_cases h0 : n < 0
  · have hb : badZ n = true := by simp [badZ, h0]
    rw [hb]
    go_enter Try.func29, Try.ntmps29
    go_wp2
    go_ret
    exact ⟨rfl, rfl⟩
  · by_cases h1 : 15 < n
    · have hb : badZ n = true := by simp [badZ, h1]
      rw [hb]
      go_enter Try.func29, Try.ntmps29
      go_wp2
      go_ret
      exact ⟨rfl, rfl⟩
    · have hb : badZ n = false := by simp [badZ, h0, h1]
      rw [hb]
      go_enter Try.func29, Try.ntmps29
      go_wp2
      go_ret
      exact ⟨rfl, rfl⟩

theorem badAt_some {zs : List Int} {i : Nat} (hi : i < zs.length) (hb : badZ (zs.getD i 0) = true) : zs.any badZ = true := by
  rw [List.any_eq_true]
  exact ⟨zs[i], List.getElem_mem _, by rw [← hb]; simp [List.getD_eq_getElem?_getD, hi]⟩
theorem bad_none {zs : List Int} (h0 : ∀ j, j < zs.length → badZ (zs.getD j 0) = false) : zs.any badZ = false := by
  rw [List.any_eq_false]
  intro x hx
  obtain ⟨i, hi, rfl⟩ := List.getElem_of_mem hx
  have := h0 i hi
  simp [List.getD_eq_getElem?_getD, hi] at this
  simp [this]

set_option maxHeartbeats 1000000 in
set_option maxRecDepth 100000 in
theorem index_any (A : Option Addr) (n c : Nat) (zs : List Int) (w : World) (h : IntsL w A zs) (hn : n = zs.length) (hm : n ≤ 65536) :
    Calls Try.prog 40 #[.slice A n c, .func (.func 29) #[] #[]] w fun e w' => w' = w ∧ ∃ k : Int, e = .returned (.int .i64 k) ∧ decide (0 ≤ k) = zs.any badZ := by
  subst hn
  go_enter Try.func40, Try.ntmps40
  go_wp2_with fail
  go_loopw [8] (fun i wr => ∃ j : Nat, i = .int .i64 (j : Nat) ∧ j ≤ zs.length ∧ (∀ q, q < j → badZ (zs.getD q 0) = false) ∧ wr = w) (fun i _ => zs.length - (intOf i).toNat)
  case atStart => exact ⟨0, rfl, Nat.zero_le _, fun q hq => by omega, rfl⟩
  case round =>
    obtain ⟨j, rfl, hj, hq, rfl⟩ := hrel
    have HQ := Lib.hid hq
    clear hq
    by_cases hlt : j < zs.length
    · obtain ⟨b, o, rfl, hb, hc⟩ := h.resolve_left (fun e => by subst e; simp at hlt)
      have hcell := hc j hlt
      have HC := Lib.hid hc
      obtain ⟨z, hz⟩ : ∃ z, zs.getD j 0 = z := ⟨_, rfl⟩
      rw [hz] at hcell
      clear hc
      go_wp2_with fail
      refine (bad_any z _).mono ?_
      rintro e w5 ⟨rfl, rfl⟩
      by_cases hbz : badZ z = true
      · rw [hbz]
        have hany := badAt_some hlt (by rw [hz]; exact hbz)
        go_wp2
        go_ret
        exact ⟨rfl, j, rfl, by rw [hany]; simp⟩
      · have hbf : badZ z = false := by simpa using hbz
        rw [hbf]
        go_wp2
        go_roundw
        case rel => exact ⟨j + 1, by go_num, by omega, fun q hq => by
          by_cases e : q = j
          · subst e; rw [hz]; exact hbf
          · exact HQ.out q (by omega), by first | rfl | trivial⟩
        case measure => simp [intOf]; omega
    · obtain rfl : j = zs.length := by omega
      have hany := bad_none HQ.out
      go_wp2
      go_ret
      exact ⟨rfl, -1, rfl, by rw [hany]; rfl⟩

set_option maxHeartbeats 1000000 in
set_option maxRecDepth 100000 in
theorem has_any (A : Option Addr) (n c : Nat) (zs : List Int) (w : World) (h : IntsL w A zs) (hn : n = zs.length) (hm : n ≤ 65536) :
    Calls Try.prog 28 #[.slice A n c, .func (.func 29) #[] #[]] w fun e w' => w' = w ∧ e = .returned (.bool (zs.any badZ)) := by
  have HI := Lib.hid (index_any A n c zs w h hn hm)
  clear h hn hm
  go_enter Try.func28, Try.ntmps28
  go_wp2_with fail
  refine HI.out.mono ?_
  rintro e w5 ⟨rfl, k, rfl, hk⟩
  have HB := Lib.hid (show Ending.returned (.bool (decide (0 ≤ k))) = Ending.returned (.bool (zs.any badZ)) by rw [hk])
  clear hk
  by_cases hk0 : 0 ≤ k
  · have e : decide (0 ≤ k) = true := by simp [hk0]
    rw [e] at HB
    go_wp2
    go_ret
    exact ⟨rfl, HB.out⟩
  · have e : decide (0 ≤ k) = false := by simp [hk0]
    rw [e] at HB
    go_wp2
    go_ret
    exact ⟨rfl, HB.out⟩

end Go.Proofs.Ythceefhnmjjddaa
