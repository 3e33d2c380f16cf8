/-
  'cordonlaw24.RingOrder' returns true, for every size and every list of steps; what was there stays as it was.
-/
import Derived.Test.YtgcfpehaabajoaaLives
namespace Go.Proofs.Ytgcfpehaabajoaa
open Go.RowKit

/-- The bools of a slice that came in. -/
def BoolsAt (w : World) (a : Option Addr) (len : Nat) (bs : Nat → Bool) : Prop :=
  ∀ i, i < len → ∃ b o, a = some ⟨b, o, none⟩ ∧ b < w.heap.size ∧ w.cell? ⟨b, o + i, none⟩ = some (.bool (bs i))

theorem BoolsAt.below {w w' : World} {a : Option Addr} {len : Nat} {bs : Nat → Bool} (h : BoolsAt w a len bs) (hb : Below w.heap.size w w') : ∀ i, i < len → ∃ b o, a = some ⟨b, o, none⟩ ∧ w'.cell? ⟨b, o + i, none⟩ = some (.bool (bs i)) := by
  intro i hi
  obtain ⟨b, o, e, hlt, hc⟩ := h i hi
  exact ⟨b, o, e, (hb.cell (p := ⟨b, o + i, none⟩) hlt).trans hc⟩

theorem size_fits (size : Int) : ∃ N : Nat, wrap64 (1 + wrap64 ((IntKind.u64.wrap size).tmod 9)) = (N : Int) ∧ 1 ≤ N ∧ N ≤ 9 := by
  have h0 : 0 ≤ IntKind.u64.wrap size := by simp [IntKind.wrap, IntKind.bits, IntKind.signed]; omega
  rw [Int.tmod_eq_emod_of_nonneg h0]
  have h1 : 0 ≤ IntKind.u64.wrap size % 9 := Int.emod_nonneg _ (by omega)
  have h2 : IntKind.u64.wrap size % 9 < 9 := Int.emod_lt_of_pos _ (by omega)
  generalize IntKind.u64.wrap size % 9 = r at h1 h2
  refine ⟨(r + 1).toNat, ?_, by omega, by omega⟩
  rw [IntWalk.wrap64_in r (by omega), IntWalk.wrap64_in (1 + r) (by omega)]
  omega

set_option maxRecDepth 100000 in
theorem order_any (size : Int) (a : Option Addr) (len cap : Nat) (bs : Nat → Bool) (w : World) (hs : BoolsAt w a len bs) (hlen : len ≤ maxLen) :
    Calls Try.prog 3 #[.int .i64 size, .slice a len cap] w fun e w' => e = .returned (.bool true) ∧ Below w.heap.size w w' := by
  unfold maxLen at hlen
  obtain ⟨N, hN, hN1, hN2⟩ := size_fits size
  have HN := Lib.hid hN
  clear hN
  go_enter Try.func3, Try.ntmps3
  go_wp2_with fail
  rw [HN.out]
  clear HN
  refine (new_at _ N _ rfl hN1 (by omega)).mono ?_
  rintro e w1 ⟨rfl, hb1, hz1, hr1⟩
  go_wp2_with fail
  refine (lives_any _).mono ?_
  rintro e w2 ⟨rfl, hb2⟩
  have hb := hb1.trans (hb2.mono (by omega))
  have hr := IsRing.mk (hr1.hb.below hb2 (by omega)) (hr1.hg.below hb2 (by omega)) hr1.hh
  clear hr1
  by_cases hl : 200 < len
  · have hl' : (200 : Int) < (len : Int) := by omega
    go_wp2_with fail
    refine (lives_any _).mono ?_
    rintro e w3 ⟨rfl, hb3⟩
    go_wp2
    go_ret
    exact ⟨rfl, hb.trans (hb3.mono hb.size)⟩
  · have hl' : ¬ (200 : Int) < (len : Int) := by omega
    go_wp2_with fail
    go_loopw [6, 7, 37] (fun p t i wr => ∃ k m n f : Nat, i = .int .i64 (k : Nat) ∧ k ≤ len ∧ p = .int .i64 ((m + n : Nat) : Int) ∧ t = .int .i64 (m : Nat) ∧ m + n ≤ k ∧
        (∃ raw, IsRing wr (w.heap.size + 1) w.heap.size N f n raw (fun j => ((m + j : Nat) : Int))) ∧ Below w.heap.size w wr) (fun _ _ i _ => len - (intOf i).toNat)
    case atStart => exact ⟨0, 0, 0, 0, rfl, by omega, rfl, rfl, by omega, ⟨_, hr.hb, hr.hg, hr.hh.congr fun j hj => absurd hj (by omega)⟩, hb⟩
    case round =>
      obtain ⟨k, m, n, f, rfl, hk, rfl, rfl, hmn, ⟨raw, hring⟩, hbel⟩ := hrel
      clear hr hb
      by_cases hlt : k < len
      · obtain ⟨b, o, rfl, hcell⟩ := hs.below hbel k hlt
        clear hs
        cases hbk : bs k
        · -- take
          rw [hbk] at hcell
          clear hbk
          rcases n with _ | n
          · go_wp2_with fail
            refine (take_no _ _ _ _ _ _ _ hring.hb (by omega)).mono ?_
            rintro e w3 ⟨rfl, rfl⟩
            have hd : ((m : Int) < ((m + 0 : Nat) : Int)) = False := by simp
            go_wp2
            go_roundw
            case rel => exact ⟨k + 1, m, 0, f, by go_num, by omega, rfl, rfl, by omega, ⟨raw, hring⟩, hbel⟩
            case measure => simp [intOf]; omega
          · go_wp2_with fail
            refine (take_at _ _ _ _ _ 0 0 _ _ _ hring rfl (by omega)).mono ?_
            rintro e w3 ⟨rfl, ht, raw3, hr3⟩
            have hd : ((m : Int) < ((m + (n + 1) : Nat) : Int)) = True := by simp; omega
            go_wp2
            go_roundw
            case rel => exact ⟨k + 1, m + 1, n, (f + 1) % N, by go_num, by omega, by go_num, by go_num, by omega, ⟨raw3, hr3.hb, hr3.hg, hr3.hh.congr fun j hj => by simp; omega⟩, hbel.trans (ht.below (by omega) (by omega))⟩
            case measure => simp [intOf]; omega
        · -- put
          rw [hbk] at hcell
          clear hbk
          by_cases hn : n < N
          · go_wp2_with fail
            refine (put_room _ _ _ _ _ _ _ _ _ hring hn).mono ?_
            rintro e w3 ⟨rfl, ht, raw3, hr3⟩
            go_wp2
            go_roundw
            case rel => exact ⟨k + 1, m, n + 1, f, by go_num, by omega, by go_num, rfl, by omega, ⟨raw3, hr3.hb, hr3.hg, hr3.hh.congr fun j hj => by by_cases e : j = n <;> simp [e]⟩, hbel.trans (ht.below (by omega) (by omega))⟩
            case measure => simp [intOf]; omega
          · have hn' : n = N := by have := hring.hh.hn; omega
            have HN' := Lib.hid hn'
            clear hn'
            go_wp2_with fail
            refine (put_full _ _ _ _ _ _ _ hring.hb HN'.out).mono ?_
            rintro e w3 ⟨rfl, q, rfl⟩
            go_wp2
            go_roundw
            case rel => exact ⟨k + 1, m, n, f, by go_num, by omega, rfl, rfl, by omega, ⟨raw, hring.drewN q⟩, below_drewN hbel q⟩
            case measure => simp [intOf]; omega
      · have hle : (n : Int) ≤ (N : Int) := by have := hring.hh.hn; omega
        generalize hP : m + n = P
        have hsub : (P : Int) - (m : Int) = (n : Int) := by omega
        clear hP hmn
        go_wp2_with fail
        refine (len_any _ _ _ _ _ _ hring.hb).mono ?_
        rintro e w3 ⟨rfl, rfl⟩
        clear hs hk hlt
        go_wp2_with fail
        refine (len_any _ _ _ _ _ _ hring.hb).mono ?_
        rintro e w3 ⟨rfl, rfl⟩
        go_wp2
        go_ret
        exact ⟨rfl, hbel⟩

end Go.Proofs.Ytgcfpehaabajoaa
