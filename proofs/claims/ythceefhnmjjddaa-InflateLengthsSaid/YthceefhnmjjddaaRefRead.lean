/-
  The document's reader in memory; its Number, by a contract.
-/
import Derived.Test.YthceefhnmjjddaaRefBits
namespace Go.Proofs.Ythceefhnmjjddaa
open Go.RowKit

/-- The document's reader at block b, over the bits at A, ere the I-th. -/
structure RAlive (w : World) (b : Nat) (A : Option Addr) (cap : Nat) (T : List UInt8) (I : Nat) : Prop where
  blk : Blk w b 62 #[.slice A (8 * T.length) cap, .int .i64 (I : Nat), .int .i64 0]
  bits : BytesAt w A (bitsL T)
  far : ∀ a, A = some a → a.block ≠ b
  hI : I ≤ 8 * T.length
/-- The reader behind the last bit. -/
def RDead (w : World) (b : Nat) (A : Option Addr) (cap : Nat) (T : List UInt8) : Prop := Blk w b 62 #[.slice A (8 * T.length) cap, .int .i64 (8 * T.length : Nat), .int .i64 2]
/-- The reader behind whatever fault. -/
def RHalt (w : World) (b : Nat) (e : Int) : Prop := ∃ v0 v1, Blk w b 62 #[v0, v1, .int .i64 e]
def RRAt (w : World) (b : Nat) (A : Option Addr) (cap : Nat) (T : List UInt8) : Option Nat → Prop
  | some I => RAlive w b A cap T I
  | none => RDead w b A cap T
def valR : Nat × Option Nat → Nat
  | (v, some _) => v
  | (_, none) => 0
theorem RAlive.only {S : List Nat} {w w' : World} {b : Nat} {A : Option Addr} {cap : Nat} {T : List UInt8} {I : Nat} (h : RAlive w b A cap T I) (hO : Only S w w') (hb : b ∉ S) (hA : ∀ a, A = some a → a.block ∉ S) : RAlive w' b A cap T I :=
  ⟨hO.blk h.blk hb, h.bits.only hO hA, h.far, h.hI⟩
theorem RAlive.at_ {w w' : World} {b : Nat} {A : Option Addr} {cap : Nat} {T : List UInt8} {I I' : Nat} (h : RAlive w b A cap T I) (hO : Only [b] w w') (hb : Blk w' b 62 #[.slice A (8 * T.length) cap, .int .i64 (I' : Nat), .int .i64 0]) (hI : I' ≤ 8 * T.length) : RAlive w' b A cap T I' :=
  ⟨hb, h.bits.only hO (fun a ha => by have := h.far a ha; simpa using this), h.far, hI⟩
theorem RDead.halt {w : World} {b : Nat} {A : Option Addr} {cap : Nat} {T : List UInt8} (h : RDead w b A cap T) : RHalt w b 2 := ⟨_, _, h⟩
theorem numS_stay {T : List UInt8} {s : Option Nat} {j n : Nat} (h : (numS T s j).2 = none) (hj : j ≤ n) : (numS T s n).2 = none := by
  obtain ⟨d, rfl⟩ : ∃ d, n = j + d := ⟨n - j, by omega⟩
  induction d with
  | zero => exact h
  | succ d ih =>
    show (bitS T (numS T s (j + d)).2).2 = none
    rw [ih (by omega)]
    rfl
theorem valR_none {r : Nat × Option Nat} (h : r.2 = none) : valR r = 0 := by
  obtain ⟨v, s⟩ := r
  cases h
  rfl
theorem valR_some {r : Nat × Option Nat} {I : Nat} (h : r.2 = some I) : valR r = r.1 := by
  obtain ⟨v, s⟩ := r
  cases h
  rfl
theorem bits_cell {w : World} {A : Option Addr} {T : List UInt8} {I : Nat} (h : BytesAt w A (bitsL T)) (hI : I < 8 * T.length) : ∃ g o, A = some ⟨g, o, none⟩ ∧ w.cell? ⟨g, o + I, none⟩ = some (.int .u8 (bitAt T I : Nat)) := by
  rcases h with h | ⟨g, o, rfl, hb, hc⟩
  · have := bitsL_length T
    rw [h] at this
    simp at this
    omega
  · refine ⟨g, o, rfl, ?_⟩
    rw [hc I (by rw [bitsL_length]; exact hI), bitsL_get T I hI]

theorem rnum_none {w w' : World} {b : Nat} {A : Option Addr} {cap : Nat} {T : List UInt8} {s : Option Nat} {n : Nat} (h : (numS T s n).2 = none) (hb : RDead w' b A cap T) (hO : Only [b] w w') :
    Ending.returned (.int .i64 0) = .returned (.int .i64 (valR (numS T s n) : Nat)) ∧ RRAt w' b A cap T (numS T s n).2 ∧ Only [b] w w' := by
  rw [valR_none h, h]
  exact ⟨rfl, hb, hO⟩
theorem shl_sum (a c j : Nat) (ha : a < 2 ^ j) (hc : c < 2) (hj : j ≤ 16) : wrap64 ((a : Int) + wrap64 ((c : Int) * 2 ^ j)) = ((a + c * 2 ^ j : Nat) : Int) := by
  have h2 : (2 : Nat) ^ j ≤ 2 ^ 16 := Nat.pow_le_pow_right (by omega) hj
  have hc2 : c * 2 ^ j ≤ 1 * 2 ^ j := Nat.mul_le_mul_right _ (by omega)
  have e : (c : Int) * 2 ^ j = ((c * 2 ^ j : Nat) : Int) := by simp
  rw [e, show wrap64 ((c * 2 ^ j : Nat) : Int) = ((c * 2 ^ j : Nat) : Int) from IntWalk.wrap64_in _ (by omega), IntWalk.wrap64_in _ (by omega)]
  omega

theorem rnum_rel {w w' : World} {b : Nat} {A : Option Addr} {cap N : Nat} {T : List UInt8} {s : Option Nat} {n j a c I : Nat} {z : Int} (hz : z = ((a + c * 2 ^ j : Nat) : Int)) (hst : numS T s (j + 1) = (a + c * 2 ^ j, some (I + 1))) (hb : Blk w' b 62 #[.slice A N cap, .int .i64 (I : Nat), .int .i64 0]) (hbits : BytesAt w' A (bitsL T)) (hfar : ∀ a, A = some a → a.block ≠ b) (hN : 8 * T.length = N) (hI : I < N) (hO : Only [b] w w') (hj : j < n) :
    ∃ j' : Nat, Value.int .i64 ((j : Int) + 1) = .int .i64 (j' : Nat) ∧ j' ≤ n ∧ Value.int .i64 z = .int .i64 ((numS T s j').1 : Nat) ∧ RRAt (w'.setCell ⟨b, 1, none⟩ (.int .i64 ((I : Int) + 1))) b A cap T (numS T s j').2 ∧ Only [b] w (w'.setCell ⟨b, 1, none⟩ (.int .i64 ((I : Int) + 1))) ∧ ((numS T s j').2 = none → (numS T s j').1 = 0) := by
  subst hN
  refine ⟨j + 1, by go_num, by omega, by rw [hst, hz], ?_, hO.set (.inl (List.mem_singleton.2 rfl)) _ _, by rw [hst]; intro h; cases h⟩
  rw [hst]
  have hO1 : Only [b] w' (w'.setCell ⟨b, 1, none⟩ (.int .i64 ((I : Int) + 1))) := (Only.refl _ _).set (.inl (List.mem_singleton.2 rfl)) _ _
  refine ⟨hb.set_ 1 (.int .i64 ((I : Int) + 1)), hbits.only hO1 (fun a ha => by have := hfar a ha; simpa using this), hfar, by omega⟩

set_option maxHeartbeats 1000000 in
set_option maxRecDepth 100000 in
theorem rnumber_any (b : Nat) (A : Option Addr) (cap : Nat) (T : List UInt8) (s : Option Nat) (n : Nat) (k : Int) (w : World) (h : RRAt w b A cap T s) (hT : T.length ≤ 65536) (hk : k = (n : Nat)) (hn : n ≤ 16) :
    Calls Try.prog 23 #[.pointer (some ⟨b, 0, none⟩), .int .i64 k] w fun e w' => e = .returned (.int .i64 (valR (numS T s n) : Nat)) ∧ RRAt w' b A cap T (numS T s n).2 ∧ Only [b] w w' := by
  subst hk
  go_enter Try.func23, Try.ntmps23
  go_wp2_with fail
  go_loopw [5, 6] (fun v i wr => ∃ j : Nat, i = .int .i64 (j : Nat) ∧ j ≤ n ∧ v = .int .i64 ((numS T s j).1 : Nat) ∧ RRAt wr b A cap T (numS T s j).2 ∧ Only [b] w wr ∧ ((numS T s j).2 = none → (numS T s j).1 = 0)) (fun _ i _ => n - (intOf i).toNat)
  case atStart => exact ⟨0, rfl, by omega, rfl, h, Only.refl _ _, fun _ => rfl⟩
  case round =>
    obtain ⟨j, rfl, hj, rfl, hr, hO, hz⟩ := hrel
    have HZ := Lib.hid hz
    clear hz
    clear h
    by_cases hlt : j < n
    · have hl := numS_lt T s j
      have hst := @numS_stay T s j n
      have hstep : numS T s (j + 1) = ((numS T s j).1 + (bitS T (numS T s j).2).1 * 2 ^ j, (bitS T (numS T s j).2).2) := rfl
      have hst1 := @numS_stay T s (j + 1) n
      rcases hs : (numS T s j).2 with _ | I
      · rw [hs] at hr
        have hno := hst hs hj
        have HNO := Lib.hid hno
        have hr' : Blk wr b 62 #[.slice A (8 * T.length) cap, .int .i64 (8 * T.length : Nat), .int .i64 2] := hr
        obtain ⟨h0, h1, f2⟩ : _ ∧ _ ∧ _ := ⟨hr'.cell 0, hr'.cell 1, hr'.frozen 2⟩
        have h2 := hr'.cell 2
        clear hst hs hstep hst1 hno hr
        generalize (numS T s j).1 = a at *
        go_wp2_with fail
        go_quiet (fail)
        go_wp2
        go_ret
        exact rnum_none HNO.out ((hr'.drewN _).set_ 2 _) ((hO.drewN _).set (.inl (List.mem_singleton.2 rfl)) _ _)
      · rw [hs] at hr hstep
        obtain ⟨hb, hbits, hfar, hI⟩ := hr
        obtain ⟨h0, h1, h2, f1, f2⟩ : _ ∧ _ ∧ _ ∧ _ ∧ _ := ⟨hb.cell 0, hb.cell 1, hb.cell 2, hb.frozen 1, hb.frozen 2⟩
        by_cases hlt2 : I < 8 * T.length
        · have hbS : bitS T (some I) = (bitAt T I, some (I + 1)) := if_pos hlt2
          rw [hbS] at hstep
          obtain ⟨g, o, hA, hcg⟩ := bits_cell hbits hlt2
          have hb1 := bitAt_lt T I
          have HST := Lib.hid hstep
          have HS := Lib.hid hs
          have HF := Lib.hid hfar
          subst hA
          clear hstep hs hbS hst hst1 hfar
          generalize (numS T s j).1 = a at *
          generalize bitAt T I = c at *
          have HSUM := Lib.hid (shl_sum a c j hl hb1 (by omega))
          have hltI : (I : Int) < (8 * T.length : Nat) := by omega
          have hnb : decide (((8 * T.length : Nat) : Int) ≤ (I : Int)) = false := by simp; omega
          have hI0 : (0 : Int) ≤ (I : Int) := by omega
          have hj0 : (0 : Int) ≤ (j : Int) := by omega
          have hj16 : (j : Int) ≤ 64 := by omega
          generalize hN : 8 * T.length = N at *
          go_wp2_with fail
          go_quiet (fail)
          go_wp2_with fail
          go_quiet (fail)
          go_wp2
          go_roundw
          case rel => exact rnum_rel HSUM.out HST.out (hb.drewN _) hbits HF.out hN hlt2 (hO.drewN _) hlt
          case measure => simp [intOf]; omega
        · obtain rfl : I = 8 * T.length := by omega
          have hbS : bitS T (some (8 * T.length)) = (0, none) := if_neg (by omega)
          rw [hbS] at hstep
          have hno := hst1 (by rw [hstep]) (by omega)
          have HNO := Lib.hid hno
          clear hstep hs hbS hst hst1 hfar hno
          generalize (numS T s j).1 = a at *
          have hdead : ∀ nq, RDead ((wr.drewN nq).setCell ⟨b, 2, none⟩ (.int .i64 2)) b A cap T := fun nq => (hb.drewN nq).set_ 2 (.int .i64 2)
          have HD := Lib.hid hdead
          clear hdead hb
          go_wp2_with fail
          go_quiet (fail)
          go_wp2
          go_ret
          exact rnum_none HNO.out (HD.out _) ((hO.drewN _).set (.inl (List.mem_singleton.2 rfl)) _ _)
    · obtain rfl : j = n := by omega
      go_wp2
      go_ret
      refine ⟨ret_int ?_, hr, hO⟩
      rcases hs : (numS T s j).2 with _ | I
      · rw [valR_none hs, HZ.out hs]
      · rw [valR_some hs]

end Go.Proofs.Ythceefhnmjjddaa
