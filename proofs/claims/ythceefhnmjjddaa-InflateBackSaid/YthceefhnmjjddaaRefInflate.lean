/-
  The document's Inflate, by a contract.
-/
import Derived.Test.YthceefhnmjjddaaRefOwn
namespace Go.Proofs.Ythceefhnmjjddaa
open Go.RowKit

/-- The document's reader lives; l has come. -/
structure RW (w : World) (rb : Nat) (A : Option Addr) (cap : Nat) (T : List UInt8) (I : Nat) (v : Value) (l : List UInt8) (wx : World) : Prop where
  b : Below w.heap.size w wx
  lo : w.heap.size ≤ rb
  hA : ∀ a, A = some a → a.block < rb
  ha : RAlive wx rb A cap T I
  hv : wx.ownsRow (rb + 1) 5 1 v l.length (bytesV l)
  hl : l.length ≤ 65536
theorem RW.read {w wx w' : World} {rb : Nat} {A : Option Addr} {cap : Nat} {T : List UInt8} {I I' : Nat} {v : Value} {l : List UInt8} (h : RW w rb A cap T I v l wx) (hO : Only [rb] wx w') (ha : RAlive w' rb A cap T I') : RW w rb A cap T I' v l w' :=
  ⟨h.b.trans (hO.below h.b.size (by have := h.lo; simp; omega)), h.lo, h.hA, ha, own_only h.hv hO (by simp), h.hl⟩
theorem RW.belowO {w wx w' : World} {rb : Nat} {A : Option Addr} {cap : Nat} {T : List UInt8} {I : Nat} {v : Value} {l : List UInt8} (h : RW w rb A cap T I v l wx) (hO : Only [rb] wx w') : Below w.heap.size w w' :=
  h.b.trans (hO.below h.b.size (by have := h.lo; simp; omega))
theorem RW.below {w wx w' : World} {rb : Nat} {A : Option Addr} {cap : Nat} {T : List UInt8} {I : Nat} {v : Value} {l : List UInt8} (h : RW w rb A cap T I v l wx) (hB : Below wx.heap.size wx w') : RW w rb A cap T I v l w' :=
  ⟨h.b.trans (hB.mono h.b.size), h.lo, h.hA, h.ha.below hB, own_below h.hv hB, h.hl⟩
theorem RW.drewN {w wx : World} {rb : Nat} {A : Option Addr} {cap : Nat} {T : List UInt8} {I : Nat} {v : Value} {l : List UInt8} (h : RW w rb A cap T I v l wx) (n : Nat) : RW w rb A cap T I v l (wx.drewN n) :=
  ⟨below_drewN h.b n, h.lo, h.hA, ⟨h.ha.blk, h.ha.bits, h.ha.far, h.ha.hI⟩, own_drewN h.hv n, h.hl⟩
/-- A byte more: its cell is new. -/
theorem RW.grow {w wx w' : World} {rb : Nat} {A : Option Addr} {cap : Nat} {T : List UInt8} {I : Nat} {v v' : Value} {l : List UInt8} {x : UInt8} (h : RW w rb A cap T I v l wx) (ht : l.length < 65536) (hown : w'.ownsRow (rb + 1) 5 1 v' (l.length + 1) (bytesV l ++ [.int .u8 (x.toNat : Nat)])) (hg : wx.grownBy w' v.ownBlock) : RW w rb A cap T I v' (l ++ [x]) w' := by
  have hlo := h.lo
  have hlt : ∀ k, v.ownBlock = some k → rb + 1 ≤ k := fun k hk => (h.hv.lt k hk).1
  refine ⟨h.b.grown hg h.b.size (fun k hk => by have := hlt k hk; omega), hlo, h.hA, h.ha.only (S := ownL v) ((Only.refl _ wx).grown hg (fun k hk => .inl (mem_ownL.2 hk))) (fun hm => by have := hlt _ (mem_ownL.1 hm); omega) (fun a ha hm => by have := hlt _ (mem_ownL.1 hm); have := h.hA a ha; omega), ?_, by simp; omega⟩
  rw [List.length_append, bytesV_append]
  exact hown
theorem rinflated_ok {w wx : World} {rb : Nat} {A : Option Addr} {cap : Nat} {T : List UInt8} {o : Except Int (List UInt8 × Nat)} {l : List UInt8} {I : Nat} {v : Value} {n : Int} (h : RW w rb A cap T I v l wx) (ho : o = .ok (l, I)) (hn : n = ((I + 7) / 8 : Nat)) :
    Inflated o w (.returned (.tuple #[v, .int .i64 n, .int .i64 0])) wx := by
  subst ho hn
  exact ⟨h.b, v, rfl, own_base h.hv (by have := h.lo; omega), h.hl⟩
theorem rinflated_err {w wx : World} {o : Except Int (List UInt8 × Nat)} {k : Int} (hb : Below w.heap.size w wx) (hk : k = 2 ∨ k = 3) (ho : o = .error k) :
    Inflated o w (.returned (.tuple #[.slice none 0 0, .int .i64 0, .int .i64 k])) wx := by
  subst ho
  exact ⟨hb, rfl, hk⟩
/-- Ere a block: whether the last one has been. -/
def RInfRel (w : World) (rb : Nat) (A : Option Addr) (cap : Nat) (T : List UInt8) (o : Except Int (List UInt8 × Nat)) (v last : Value) (wr : World) : Prop :=
  ∃ I l, RW w rb A cap T I v l wr ∧ ((∃ f, last = .int .i64 0 ∧ 8 * T.length - I < f ∧ o = blocksF T f I l) ∨ (last = .int .i64 1 ∧ o = .ok (l, I)))
theorem rstep {w wx : World} {rb : Nat} {A : Option Addr} {cap : Nat} {T : List UInt8} {I : Nat} {v : Value} {l : List UInt8} (h : RW w rb A cap T I v l wx) (hI : I + 1 ≤ 8 * T.length) : RW w rb A cap T (I + 1) v l (wx.setCell ⟨rb, 1, none⟩ (.int .i64 ((I : Int) + 1))) := by
  have hO : Only [rb] wx (wx.setCell ⟨rb, 1, none⟩ (.int .i64 ((I : Int) + 1))) := (Only.refl _ wx).set (.inl (List.mem_singleton.2 rfl)) _ _
  exact h.read hO (h.ha.at_ hO (h.ha.blk.set_ 1 (.int .i64 ((I : Int) + 1))) hI)
theorem numS_one (T : List UInt8) (s : Option Nat) : numS T s 1 = bitS T s := by simp [numS]
theorem and_not (n : Nat) (h : n ≤ 65535) : bits .and .i64 (n : Int) ((65535 - n : Nat) : Int) = 0 := by
  have e : n &&& (65535 - n) = 0 := by
    apply Nat.eq_of_testBit_eq
    intro i
    have h2 : 65535 - n = 2 ^ 16 - (n + 1) := by omega
    rw [Nat.testBit_and, h2, Nat.testBit_two_pow_sub_succ (by omega)]
    simp
    intro h1 _
    exact h1
  rw [(bits_nat .i64 62 (by decide) wraps_nat n (65535 - n) (by omega) (by omega)).1, e]
  rfl

theorem rinf_ok {w wx : World} {rb : Nat} {A : Option Addr} {cap : Nat} {T : List UInt8} {o : Except Int (List UInt8 × Nat)} {f c I0 I : Nat} {v : Value} {l : List UInt8} (h : RW w rb A cap T I v l wx) (hc : c < 2) (hf : 8 * T.length - I0 < f + 1) (hI0 : I0 < I) (ho : o = blocksT T f c (.ok (l, I))) : RInfRel w rb A cap T o v (.int .i64 (c : Nat)) wx := by
  refine ⟨I, l, h, ?_⟩
  have hI := h.ha.hI
  by_cases h1 : c = 1
  · subst h1
    exact .inr ⟨rfl, ho.trans (by simp [blocksT])⟩
  · obtain rfl : c = 0 := by omega
    exact .inl ⟨f, rfl, by omega, ho.trans (by simp [blocksT])⟩
def RBytesRel (w : World) (rb : Nat) (A : Option Addr) (cap : Nat) (T : List UInt8) (n I0 f c : Nat) (o : Except Int (List UInt8 × Nat)) (v i : Value) (wx : World) : Prop :=
  ∃ j I l, i = .int .i64 (j : Nat) ∧ j ≤ n ∧ RW w rb A cap T I v l wx ∧ I0 ≤ I ∧ o = blocksT T f c (bytesS T (n - j) I l)
theorem own_len {w : World} {base : Nat} {v : Value} {l : List UInt8} (h : w.ownsRow base 5 1 v l.length (bytesV l)) : ∃ A c, v = .slice A l.length c := own_slice h
theorem tabsS_mono {T : List UInt8} {kd I J : Nat} {L1 L2 : List Nat} (hI : I ≤ 8 * T.length) (h : tabsS T kd I = some (L1, L2, J)) : I ≤ J ∧ J ≤ 8 * T.length := by
  unfold tabsS at h
  split at h
  · exact ownS_mono hI h
  · injection h with h; injection h with _ h; injection h with _ h; omega
theorem rtables_any (b : Nat) (A : Option Addr) (cap : Nat) (T : List UInt8) (I kd : Nat) (w : World) (h : RAlive w b A cap T I) (hT : T.length ≤ 65536) (hA : ∀ a, A = some a → a.block < w.heap.size) (hk : kd = 1 ∨ kd = 2) :
    Calls Try.prog 24 #[.pointer (some ⟨b, 0, none⟩), .int .i64 (kd : Nat)] w (RTabled (tabsS T kd I) b A cap T w) := by
  rcases hk with rfl | rfl
  · have e : tabsS T 1 I = some (fixL, fixD, I) := if_neg (by decide)
    rw [e]
    exact rtables_fixed b A cap T I w h
  · have e : tabsS T 2 I = ownS T I := if_pos rfl
    rw [e]
    exact rtables_own b A cap T I _ w h hT hA (by decide)
theorem TextsAt.grown {w w' : World} {base g B n : Nat} {L : List Nat} {v : Value} {xs : List Value} (h : TextsAt w base g L) (hown : w.ownsRow B 5 1 v n xs) (hg : w.grownBy w' v.ownBlock) : TextsAt w' base g L :=
  ⟨(hg.block g (Array.getElem?_eq_some_iff.1 h.row).1 (Blk.own_ne (t := 9) (show Blk w g 9 _ from h.row) hown (by decide))).trans h.row, h.lo, h.ok, h.len⟩
/-- Ere a sign. -/
def RSignsRel (w : World) (rb : Nat) (A : Option Addr) (cap : Nat) (T : List UInt8) (L1 L2 : List Nat) (base g1 g2 I0 f c : Nat) (o : Except Int (List UInt8 × Nat)) (v : Value) (wx : World) : Prop :=
  TextsAt wx base g1 L1 ∧ TextsAt wx base g2 L2 ∧ ((∃ I l f', RW w rb A cap T I v l wx ∧ I0 ≤ I ∧ 8 * T.length - I < f' ∧ o = blocksT T f c (codedF T L1 L2 f' I l)) ∨ (RHalt wx rb 2 ∧ Below w.heap.size w wx ∧ o = .error 2))
/-- Ere a byte of a copy. -/
def RCopyRel (w : World) (rb : Nat) (A : Option Addr) (cap : Nat) (T : List UInt8) (L1 L2 : List Nat) (base g1 g2 I d n f f' c : Nat) (o : Except Int (List UInt8 × Nat)) (v i : Value) (wx : World) : Prop :=
  TextsAt wx base g1 L1 ∧ TextsAt wx base g2 L2 ∧ ∃ j l, i = .int .i64 (j : Nat) ∧ j ≤ n ∧ RW w rb A cap T I v l wx ∧ d ≤ l.length ∧ o = blocksT T f c (codedTail T L1 L2 f' I (copyS d (n - j) l))
theorem bt_err {T : List UInt8} {f c : Nat} {k : Int} : blocksT T f c (.error k) = .error k := rfl

set_option maxHeartbeats 8000000 in
set_option maxRecDepth 100000 in
theorem rinflate_any (A0 : Option Addr) (cap0 : Nat) (T : List UInt8) (w : World) (h : BytesAt w A0 T) (hT : T.length ≤ 65536) :
    Calls Try.prog 10 #[.slice A0 T.length cap0] w (Inflated (inflateS T) w) := by
  have ho : inflateS T = blocksF T (8 * T.length + 1) 0 [] := rfl
  generalize inflateS T = o at *
  have HO := Lib.hid ho
  clear ho
  obtain ⟨i0, hi, hz0, hz1, hz2⟩ := info_parts info5
  go_enter Try.func10, Try.ntmps10
  go_wp2_with fail
  refine (bits_any A0 cap0 T _ h hT).mono ?_
  rintro e w1 ⟨v1, rfl, hown1, hb1⟩
  obtain ⟨A, cap, hv1, hbits, _⟩ := BytesAt.of_own hown1
  have hA1 : ∀ a, A = some a → a.block < w1.heap.size := fun a ha => by
    subst ha
    rw [hv1] at hown1
    exact (hown1.lt a.block rfl).2
  rw [bitsL_length] at hv1
  subst hv1
  have hb1s := hb1.size
  clear hown1 h
  have hrw : RW w w1.heap.size A cap T 0 (.slice (some ⟨w1.heap.size + 1, 0, none⟩) 0 0) [] ((w1.alloc (.cells #[.slice A (8 * T.length) cap, .int .i64 0, .int .i64 0] 62)).alloc (.cells #[] 5)) := by
    refine ⟨(hb1.alloc hb1s _).alloc (by simp; omega) _, hb1s, hA1, ⟨(Blk.new w1 62 _).alloc _, hbits.below (((Below.refl _ w1).alloc (Nat.le_refl _) _).alloc (by simp) _), fun a ha => by have := hA1 a ha; omega, by omega⟩, ?_, by simp⟩
    exact ownsRow_empty (by have := heap_alloc_new (w1.alloc (.cells #[.slice A (8 * T.length) cap, .int .i64 0, .int .i64 0] 62)) (.cells #[] 5); simpa using this) (Nat.le_refl _)
  clear hbits hA1 hb1
  go_wp2_with fail
  go_loopw [6, 7] (fun v last wr => RInfRel w w1.heap.size A cap T o v last wr) (fun _ _ wr => rleft w1.heap.size (8 * T.length) wr)
  case atStart => exact ⟨0, [], hrw, .inl ⟨8 * T.length + 1, rfl, by omega, HO.out⟩⟩
  case round =>
    clear hrw
    generalize hrbe : w1.heap.size = rb at *
    have HRB := Lib.hid hrbe
    clear hrbe
    obtain ⟨I, l, hrw, hcase⟩ := hrel
    have hI8 := hrw.ha.hI
    obtain ⟨h2c, f2c⟩ := hrw.ha.cells
    have h1c := hrw.ha.blk.cell 1
    rcases hcase with ⟨f, rfl, hf, ho⟩ | ⟨rfl, ho⟩
    · obtain ⟨f, rfl⟩ : ∃ f', f = f' + 1 := ⟨f - 1, by omega⟩
      rw [blocksF_step] at ho
      have HJ := Lib.hid ho
      have hmes := hrw.ha.left (8 * T.length)
      have HM := Lib.hid hmes
      clear ho hmes h1c
      go_wp2_with fail
      refine (rnumber_any rb A cap T (some I) 1 _ _ (by exact hrw.ha) hT rfl (by omega)).mono ?_
      rw [numS_one]
      rintro e w2 ⟨rfl, hr2, hO2⟩
      have hlb := bitS_lt T (some I)
      have hs1 := @bitS_mono T I
      generalize bitS T (some I) = r1 at *
      obtain ⟨c, s1⟩ := r1
      simp only at hr2 hlb hs1 HJ
      have hxc : s1 ≠ none → valR (c, s1) = c := fun h => by cases s1 with
        | none => exact absurd rfl h
        | some J => rfl
      have HXC := Lib.hid hxc
      generalize valR (c, s1) = x at *
      clear hxc
      go_wp2_with fail
      refine (rnumber_any rb A cap T s1 2 _ _ hr2 hT rfl (by omega)).mono ?_
      rintro e w3 ⟨rfl, hr3, hO3⟩
      have hO13 : Only [rb] wr w3 := hO2.trans hO3
      have hl2 := numS_lt T s1 2
      have hs2 : ∀ J, (numS T s1 2).2 = some J → I + 1 ≤ J ∧ J ≤ 8 * T.length := fun J hJ => numS_mono hJ (fun K hK => by have := hs1 (by rw [hK]); omega)
      have hne : (numS T s1 2).2 ≠ none → s1 ≠ none := numS_dead T s1 2
      have hv2 : ∀ J, (numS T s1 2).2 = some J → valR (numS T s1 2) = (numS T s1 2).1 := fun J hJ => valR_some hJ
      have HS2 := Lib.hid hs2
      have HNE := Lib.hid hne
      have HV2 := Lib.hid hv2
      generalize numS T s1 2 = r2 at *
      obtain ⟨kd0, s2⟩ := r2
      replace hl2 : kd0 < 4 := hl2
      simp only at hr3 HJ HV2
      generalize valR (kd0, s2) = kd at *
      clear hs2 hne hv2 hs1 hr2 hO2 hO3 h2c f2c
      rcases s2 with _ | I2
      · have HFIN : Hid (o = .error 2) := HJ.out
        have hh : RHalt w3 rb 2 := RDead.halt hr3
        obtain ⟨h2c, f2c⟩ := hh.e
        have hB3 := hrw.belowO hO13
        clear HJ hr3
        go_wp2_with fail
        go_quiet (fail)
        go_wp2
        go_ret3
        exact rinflated_err (below_drewN hB3 _) (.inl rfl) HFIN.out
      · have hb2 := HS2.out I2 rfl
        have hrw3 : RW w rb A cap T I2 _ l w3 := hrw.read hO13 hr3
        have hkd := HV2.out I2 rfl
        replace hkd : kd = kd0 := hkd
        subst hkd
        have hx := HXC.out (HNE.out (by simp))
        subst hx
        have HN : Hid (o = blocksT T f x (blockS T kd I2 l)) := HJ.out
        obtain ⟨h2c, f2c⟩ := hrw3.ha.cells
        clear HJ HS2 HXC HNE HV2 hrw hr3 hO13
        by_cases hk3 : kd = 3
        · subst hk3
          have HFIN : Hid (o = .error 2) := HN.out.trans (congrArg _ (blockS_3 _ _ _))
          have hB3 := (hrw3.b).setCell (p := ⟨rb, 2, none⟩) hrw3.lo (.int .i64 2)
          go_wp2_with fail
          go_quiet (fail)
          go_wp2
          go_ret3
          exact rinflated_err (below_drewN hB3 _) (.inl rfl) HFIN.out
        · by_cases hk0 : kd = 0
          · subst hk0
            rw [blockS_0] at HN
            go_wp2_with fail
            clear h2c f2c
            go_loopw [54] (fun _ wx => ∃ J, I2 ≤ J ∧ J ≤ 8 * ((I2 + 7) / 8) ∧ RW w rb A cap T J u6 l wx) (fun _ wx => rleft rb (8 * T.length) wx)
            case atStart => exact ⟨I2, Nat.le_refl _, by omega, hrw3⟩
            case round =>
              clear hrw3
              obtain ⟨J, hJ1, hJ2, hrw3⟩ := hrel
              have hJ8 := hrw3.ha.hI
              obtain ⟨h1c, f1c⟩ : _ ∧ _ := ⟨hrw3.ha.blk.cell 1, hrw3.ha.blk.frozen 1⟩
              have hJ0 : (0 : Int) ≤ (J : Int) := by omega
              by_cases hal : J % 8 = 0
              · have hJe : J = 8 * ((I2 + 7) / 8) := by omega
                have halb : (((J : Int) % 8) != 0) = false := by simp; omega
                have HNS : Hid (o = blocksT T f x (storedK T l (numS T (some J) 16).1 (numS T (numS T (some J) 16).2 16))) := by
                  rw [hJe]; exact HN
                clear hal HN
                go_wp2_with fail
                refine (rnumber_any rb A cap T (some J) 16 _ _ hrw3.ha hT rfl (by omega)).mono ?_
                rintro e w4 ⟨rfl, hr4, hO4⟩
                have hl4 := numS_lt T (some J) 16
                have HV4 : Hid (∀ K, (numS T (some J) 16).2 = some K → valR (numS T (some J) 16) = (numS T (some J) 16).1) := Lib.hid fun K hK => valR_some hK
                have HS4 := Lib.hid (fun K hK => numS_le T J 16 K hK hJ8)
                have hy4 := valR_lt2 T (some J) 16
                generalize numS T (some J) 16 = r4 at *
                generalize valR r4 = y4 at *
                obtain ⟨n4, s4⟩ := r4
                simp only at hr4 HV4 HS4 HNS hl4
                go_wp2_with fail
                refine (rnumber_any rb A cap T s4 16 _ _ hr4 hT rfl (by omega)).mono ?_
                rintro e w5 ⟨rfl, hr5, hO5⟩
                have hl5 := numS_lt T s4 16
                have HV5 : Hid (∀ K, (numS T s4 16).2 = some K → valR (numS T s4 16) = (numS T s4 16).1) := Lib.hid fun K hK => valR_some hK
                have HS5 : Hid (∀ K, (numS T s4 16).2 = some K → ∃ M, s4 = some M ∧ K = M + 16) := Lib.hid fun K hK => by
                  cases s4 with
                  | none => rw [numS_none] at hK; cases hK
                  | some M => exact ⟨M, rfl, (numS_le T M 16 K hK (HS4.out M rfl).2).1⟩
                have hy5 := valR_lt2 T s4 16
                generalize numS T s4 16 = r5 at *
                generalize valR r5 = y5 at *
                obtain ⟨m5, s5⟩ := r5
                simp only at hr5 HV5 HS5 HNS hl5
                have hO45 := hO4.trans hO5
                replace hy4 : y4 < 65536 := hy4
                replace hy5 : y5 < 65536 := hy5
                clear hr4 hO4 hO5 h1c f1c
                rcases s5 with _ | I5
                · have HFIN : Hid (o = .error 2) := HNS.out
                  have hh : RHalt w5 rb 2 := RDead.halt hr5
                  obtain ⟨h2c, f2c⟩ := hh.e
                  have hB5 := hrw3.belowO hO45
                  clear HNS hr5
                  go_wp2_with fail
                  go_ret3
                  exact rinflated_err hB5 (.inl rfl) HFIN.out
                · obtain ⟨M, hM, hM2⟩ := HS5.out I5 rfl
                  have e5 : y5 = m5 := HV5.out I5 rfl
                  have e4 : y4 = n4 := HV4.out M hM
                  have eM := (HS4.out M hM).1
                  subst e5 e4
                  have hrw5 : RW w rb A cap T I5 _ l w5 := hrw3.read hO45 hr5
                  have hIJ : J < I5 := by omega
                  obtain ⟨h2c, f2c⟩ := hrw5.ha.cells
                  clear hM hM2 eM HS5 HS4 HV5 HV4 hr5 hO45 hrw3
                  by_cases hsum : y4 + y5 = 65535
                  · have hsb : (((y4 : Int) + (y5 : Int)) != 65535) = false := by simp; omega
                    have hand := and_not y4 (by omega)
                    rw [show 65535 - y4 = y5 by omega] at hand
                    have HNB : Hid (o = blocksT T f x (bytesS T y4 I5 l)) := HNS.out.trans (congrArg _ (storedK_ok hsum))
                    clear HNS
                    go_wp2_with fail
                    clear h2c f2c hand
                    go_loopw [6, 11] (fun v i wx => RBytesRel w rb A cap T y4 I5 f x o v i wx) (fun _ i _ => y4 - (intOf i).toNat)
                    case atStart => exact ⟨0, I5, l, rfl, Nat.zero_le _, hrw5, Nat.le_refl _, HNB.out⟩
                    case round =>
                      clear hrw5
                      obtain ⟨j, I6, l6, rfl, hj, hrw6, hI6, ho6⟩ := hrel
                      have hI68 := hrw6.ha.hI
                      by_cases hjl : j < y4
                      · obtain ⟨q, hq⟩ : ∃ q, y4 - j = q + 1 := ⟨y4 - j - 1, by omega⟩
                        rw [hq, bytesS_step] at ho6
                        have HO6 := Lib.hid ho6
                        have HQ := Lib.hid hq
                        clear ho6 hq
                        go_wp2_with fail
                        refine (rnumber_any rb A cap T (some I6) 8 _ _ hrw6.ha hT rfl (by omega)).mono ?_
                        rintro e w7 ⟨rfl, hr7, hO7⟩
                        have HV7 : Hid (∀ K, (numS T (some I6) 8).2 = some K → valR (numS T (some I6) 8) = (numS T (some I6) 8).1) := Lib.hid fun K hK => valR_some hK
                        have HS7 := Lib.hid (fun K hK => numS_le T I6 8 K hK hI68)
                        have hy7 := valR_lt2 T (some I6) 8
                        generalize numS T (some I6) 8 = r7 at *
                        generalize valR r7 = y7 at *
                        obtain ⟨n7, s7⟩ := r7
                        simp only at hr7 HV7 HS7 HO6
                        replace hy7 : y7 < 256 := hy7
                        rcases s7 with _ | I7
                        · have HFIN : Hid (o = .error 2) := HO6.out
                          have hh : RHalt w7 rb 2 := RDead.halt hr7
                          obtain ⟨h2c, f2c⟩ := hh.e
                          have hB7 := hrw6.belowO hO7
                          clear HO6 hr7
                          go_wp2_with fail
                          go_quiet (fail)
                          go_wp2
                          go_ret3
                          exact rinflated_err (below_drewN hB7 _) (.inl rfl) HFIN.out
                        · have e7 : y7 = n7 := HV7.out I7 rfl
                          have hI7 := HS7.out I7 rfl
                          subst e7
                          have hrw7 := hrw6.read hO7 hr7
                          obtain ⟨h2c, f2c⟩ := hrw7.ha.cells
                          obtain ⟨A7, c7, hv7⟩ := own_len hrw7.hv
                          clear HS7 HV7 hr7 hO7 hrw6
                          subst hv7
                          have hlb7 := hrw7.hl
                          by_cases hfull : l6.length = 65536
                          · have hfb : ((l6.length : Int) == 65536) = true := by simp; omega
                            have HFIN : Hid (o = .error 3) := HO6.out.trans (congrArg (blocksT T f x) (if_neg (by omega)))
                            have hB7 := hrw7.b
                            clear HO6 hfull
                            go_wp2_with fail
                            go_ret3
                            exact rinflated_err hB7 (.inr rfl) HFIN.out
                          · have hfb : ((l6.length : Int) == 65536) = false := by simp; omega
                            have hl65 : l6.length < 65536 := by omega
                            have HON : Hid (o = blocksT T f x (bytesS T q I7 (l6 ++ [y7.toUInt8]))) := HO6.out.trans (congrArg (blocksT T f x) (if_pos hl65))
                            have hw8 : IntKind.u8.wrap (y7 : Int) = (y7 : Int) := IntWalk.u8_in _ (by omega)
                            have hxx : y7.toUInt8.toNat = y7 := by simp; omega
                            have HXX := Lib.hid hxx
                            have hone := Lib.hid (one_u8 (y7 : Nat))
                            have h63 := Lib.hid (le63_ (show l6.length + 1 ≤ 3000000 by omega))
                            have hrw8 := hrw7.below ((Below.refl _ w7).alloc (Nat.le_refl _) (.cells #[.int .u8 (y7 : Nat)] 5))
                            have hown8 := hrw8.hv
                            have hsrc := cell_src w7 (.int .u8 (y7 : Nat)) 5
                            have hz7 : rb + 1 ≤ w7.heap.size := by have := hrw7.ha.blk.lt; omega
                            clear HO6 hxx hrw7
                            go_wp2_with (at_builtin; go_loud (refine wpList_append_src _ rfl (.tmp 107) (.tmp 110) 22 rfl (rb + 1) 5 i0 (.int .u8 0) 1 1 Try.underlying22 hi hz0 hz1 hz2 rfl (by decide) (.slice A7 l6.length c7) l6.length (bytesV l6) rfl hown8 (some ⟨w7.heap.size, 0, none⟩) 1 1 [.int .u8 (y7 : Nat)] rfl rfl hsrc hone.out h63.out.1 h63.out.2 (by simp; omega) ?_; intro v' w9 hown9 hgrow9))
                            have hrw9 := hrw8.grow (x := y7.toUInt8) hl65 (by rw [HXX.out]; exact hown9) hgrow9
                            clear hown9 hgrow9 hsrc hown8 hrw8
                            go_roundw
                            case rel => exact ⟨j + 1, I7, _, by go_num, by omega, hrw9, by omega, by have := HQ.out; rw [show y4 - (j + 1) = q by omega]; exact HON.out⟩
                            case measure => simp [intOf]; omega
                      · obtain rfl : j = y4 := by omega
                        rw [Nat.sub_self] at ho6
                        have HO6 := Lib.hid ho6
                        have hmes := hrw6.ha.left (8 * T.length)
                        have HM6 := Lib.hid hmes
                        clear hmes ho6
                        go_wp2
                        go_roundw
                        case rel => exact rinf_ok hrw6 hlb hf (by omega) HO6.out
                        case measure => rw [HM.out, HM6.out]; omega
                  · have hsb : (((y4 : Int) + (y5 : Int)) != 65535) = true := by simp; omega
                    have HFIN : Hid (o = .error 2) := HNS.out.trans (congrArg _ (storedK_no hsum))
                    have hB5 := hrw5.b
                    clear HNS
                    go_wp2_with fail
                    go_ret3
                    exact rinflated_err hB5 (.inl rfl) HFIN.out
              · have halb : (((J : Int) % 8) != 0) = true := by simp; omega
                have hstp := rstep hrw3 (show J + 1 ≤ 8 * T.length by omega)
                have hmes := hrw3.ha.left (8 * T.length)
                have hmes2 := hstp.ha.left (8 * T.length)
                have HM7 := Lib.hid hmes
                have HM8 := Lib.hid hmes2
                have HAL := Lib.hid hal
                clear hmes hmes2 hal
                go_wp2_with fail
                go_roundw
                case rel => exact ⟨J + 1, by omega, by have := HAL.out; omega, hstp⟩
                case measure => have := HAL.out; rw [HM7.out, HM8.out]; omega
          · have HNT : Hid (o = blocksT T f x (blockT T l (tabsS T kd I2))) := HN.out.trans (congrArg _ (blockS_tabs _ _ _ _ hk0 hk3))
            have hk12 : kd = 1 ∨ kd = 2 := by omega
            have hk0b : ((kd : Int) == 0) = false := by simp; omega
            have hk3b : ((kd : Int) == 3) = false := by simp; omega
            have HK12 := Lib.hid hk12
            have hbd := @tabsS_mono T kd I2
            clear HN hk0 hk3 hk12
            go_wp2_with fail
            refine (rtables_any rb A cap T I2 kd _ hrw3.ha hT (fun a ha => by have := hrw3.hA a ha; have := hrw3.ha.blk.lt; omega) HK12.out).mono ?_
            rintro e w4 ⟨hO4, htab⟩
            have hrb3 := hrw3.ha.blk.lt
            generalize tabsS T kd I2 = oo at *
            rcases oo with _ | ⟨L1, L2, J4⟩
            · obtain ⟨⟨v1, v2, rfl⟩, hh⟩ := htab
              have HFIN : Hid (o = .error 2) := HNT.out
              have hB4 := hrw3.belowO hO4
              clear h2c f2c
              go_wp2_with fail
              go_loopw [118] (fun _ wx => RHalt wx rb 2 ∧ Below w.heap.size w wx) (fun _ _ => 0)
              case atStart => exact ⟨hh, hB4⟩
              case round =>
                clear hh hB4
                obtain ⟨hh, hB⟩ := hrel
                obtain ⟨h2c, f2c⟩ := hh.e
                go_wp2_with fail
                go_quiet (fail)
                go_wp2
                go_ret3
                exact rinflated_err (below_drewN hB _) (.inl rfl) HFIN.out
            · obtain ⟨g1, g2, rfl, ht1, ht2, ha4⟩ := htab
              have hIJ := hbd (by omega) rfl
              have hrw4 := hrw3.read hO4 ha4
              have HNC : Hid (o = blocksT T f x (codedF T L1 L2 (8 * T.length + 1) J4 l)) := HNT.out
              clear h2c f2c HNT hbd hrw3 ha4 hO4
              go_wp2_with fail
              go_loopw [6, 118] (fun v _ wx => RSignsRel w rb A cap T L1 L2 w3.heap.size g1 g2 I2 f x o v wx) (fun _ _ wx => rleft rb (8 * T.length) wx)
              case atStart => exact ⟨ht1, ht2, .inl ⟨J4, l, _, hrw4, hIJ.1, by omega, HNC.out⟩⟩
              case round =>
                clear ht1 ht2 hrw4 HNC
                obtain ⟨ht1, ht2, hcase⟩ := hrel
                rcases hcase with ⟨I5, l5, f5, hrw5, hI5, hf5, ho5⟩ | ⟨hh, hB, ho5⟩
                · obtain ⟨f5, rfl⟩ : ∃ f', f5 = f' + 1 := ⟨f5 - 1, by omega⟩
                  rw [codedF_step] at ho5
                  have HJ5 := Lib.hid ho5
                  have hmes := hrw5.ha.left (8 * T.length)
                  have HM5 := Lib.hid hmes
                  obtain ⟨h2c, f2c⟩ := hrw5.ha.cells
                  have hl1 := ht1.len
                  have hl2' := ht2.len
                  clear ho5 hmes
                  go_wp2_with fail
                  refine (rsign_any rb g1 A cap T L1 I5 _ hrw5.ha hT (by omega) ht1.ok ht1.row (by have := ht1.lo; omega)).mono ?_
                  intro e w6 hsd
                  have hbd := @signS_bd T L1 I5
                  generalize signS T L1 I5 = o1 at *
                  rcases o1 with _ | ⟨s, I6⟩
                  · obtain ⟨rfl, hh, hO6⟩ := hsd
                    have HFIN : Hid (o = .error 2) := HJ5.out
                    have hB6 := hrw5.belowO hO6
                    clear h2c f2c hbd
                    obtain ⟨h2c, f2c⟩ := hh.e
                    go_wp2_with fail
                    go_quiet (fail)
                    go_wp2
                    go_ret3
                    exact rinflated_err (below_drewN hB6 _) (.inl rfl) HFIN.out
                  · obtain ⟨rfl, ha6, hO6⟩ := hsd
                    obtain ⟨hb1, hb2', hb3⟩ := hbd rfl
                    have hs288 : s < 288 := by omega
                    have hrw6 := hrw5.read hO6 ha6
                    have ht16 := ht1.only hO6 (by simp; omega)
                    have ht26 := ht2.only hO6 (by simp; omega)
                    clear h2c f2c hbd hb3 hrw5 ha6 hO6 ht1 ht2
                    obtain ⟨h2c, f2c⟩ := hrw6.ha.cells
                    obtain ⟨A6, c6, hv6⟩ := own_len hrw6.hv
                    subst hv6
                    have hlb6 := hrw6.hl
                    by_cases hs256 : s = 256
                    · subst hs256
                      have HFIN : Hid (o = blocksT T f x (.ok (l5, I6))) := HJ5.out
                      have hmes := hrw6.ha.left (8 * T.length)
                      have HM6 := Lib.hid hmes
                      clear hmes HJ5
                      go_wp2_with fail
                      go_roundw
                      case rel => exact rinf_ok hrw6 hlb hf (by omega) HFIN.out
                      case measure => rw [HM.out, HM6.out]; omega
                    · have hsb : ((s : Int) == 256) = false := by simp; omega
                      by_cases hlt : s < 256
                      · have hltI : (s : Int) < 256 := by omega
                        have hon := HJ5.out.trans (congrArg (blocksT T f x) (codedK_byte hs256 hlt))
                        by_cases hfull : l5.length = 65536
                        · have hfb : ((l5.length : Int) == 65536) = true := by simp; omega
                          have HFIN : Hid (o = .error 3) := Lib.hid (by rw [hon, if_neg (by omega)]; rfl)
                          have hB7 := hrw6.b
                          clear HJ5 hfull hon hs256
                          go_wp2_with fail
                          go_ret3
                          exact rinflated_err hB7 (.inr rfl) HFIN.out
                        · have hfb : ((l5.length : Int) == 65536) = false := by simp; omega
                          have hl65 : l5.length < 65536 := by omega
                          rw [if_pos hl65] at hon
                          have HON := Lib.hid hon
                          have hw8 : IntKind.u8.wrap (s : Int) = (s : Int) := IntWalk.u8_in _ (by omega)
                          have hxx : s.toUInt8.toNat = s := by simp; omega
                          have HXX := Lib.hid hxx
                          have hone := Lib.hid (one_u8 (s : Nat))
                          have h63 := Lib.hid (le63_ (show l5.length + 1 ≤ 3000000 by omega))
                          have hba := (Below.refl _ w6).alloc (Nat.le_refl _) (.cells #[.int .u8 (s : Nat)] 5)
                          have hrw8 := hrw6.below hba
                          have ht18 := ht16.below hba
                          have ht28 := ht26.below hba
                          have hown8 := hrw8.hv
                          have hsrc := cell_src w6 (.int .u8 (s : Nat)) 5
                          have hz7 : rb + 1 ≤ w6.heap.size := by have := hrw6.ha.blk.lt; omega
                          clear HJ5 hxx hrw6 hon hs256 hba ht16 ht26
                          go_wp2_with (at_builtin; go_loud (refine wpList_append_src _ rfl (.tmp 140) (.tmp 143) 22 rfl (rb + 1) 5 i0 (.int .u8 0) 1 1 Try.underlying22 hi hz0 hz1 hz2 rfl (by decide) (.slice A6 l5.length c6) l5.length (bytesV l5) rfl hown8 (some ⟨w6.heap.size, 0, none⟩) 1 1 [.int .u8 (s : Nat)] rfl rfl hsrc hone.out h63.out.1 h63.out.2 (by simp; omega) ?_; intro v' w9 hown9 hgrow9))
                          have hrw9 := hrw8.grow (x := s.toUInt8) hl65 (by rw [HXX.out]; exact hown9) hgrow9
                          have ht19 := ht18.grown hown8 hgrow9
                          have ht29 := ht28.grown hown8 hgrow9
                          have hmes := hrw9.ha.left (8 * T.length)
                          have HM6 := Lib.hid hmes
                          clear hmes hown9 hgrow9 hsrc hown8 hrw8 ht18 ht28
                          go_roundw
                          case rel => exact ⟨ht19, ht29, .inl ⟨I6, _, f5, hrw9, by omega, by omega, HON.out⟩⟩
                          case measure => rw [HM5.out, HM6.out]; omega
                      · have hltI : ¬ (s : Int) < 256 := by omega
                        have HHM : Hid (o = blocksT T f x (codedM T L1 L2 f5 l5 (lengthS T s I6))) := HJ5.out.trans (congrArg (blocksT T f x) (codedK_some hs256 hlt))
                        have hlbd := @lengthS_bd T s I6
                        have hs257 : 257 ≤ s := by omega
                        clear HJ5 hs256
                        go_wp2_with fail
                        refine (rlength_any rb A cap T I6 s _ hrw6.ha hT hs257 (by omega)).mono ?_
                        intro e w7 hme
                        generalize lengthS T s I6 = o2 at *
                        rcases o2 with _ | ⟨n, I7⟩
                        · obtain ⟨⟨n, rfl⟩, hh, hO7⟩ := hme
                          have HFIN : Hid (o = .error 2) := HHM.out
                          have hB7 := hrw6.belowO hO7
                          clear h2c f2c hlbd
                          obtain ⟨h2c, f2c⟩ := hh.e
                          go_wp2_with fail
                          go_quiet (fail)
                          go_wp2
                          go_ret3
                          exact rinflated_err (below_drewN hB7 _) (.inl rfl) HFIN.out
                        · obtain ⟨rfl, ha7, hO7⟩ := hme
                          obtain ⟨hn1, hn2, hn3⟩ := hlbd rfl (by omega)
                          have HHN : Hid (o = blocksT T f x (codedN T L1 L2 f5 n l5 (signS T L2 I7))) := HHM.out
                          have hrw7 := hrw6.read hO7 ha7
                          have ht17 := ht16.only hO7 (by simp; omega)
                          have ht27 := ht26.only hO7 (by simp; omega)
                          clear h2c f2c hlbd hrw6 ha7 hO7 ht16 ht26 HHM
                          obtain ⟨h2c, f2c⟩ := hrw7.ha.cells
                          go_wp2_with fail
                          refine (rsign_any rb g2 A cap T L2 I7 _ hrw7.ha hT (by omega) ht27.ok ht27.row (by have := ht27.lo; omega)).mono ?_
                          intro e w8 hsd
                          have hbd := @signS_bd T L2 I7
                          generalize signS T L2 I7 = o3 at *
                          rcases o3 with _ | ⟨k, I8⟩
                          · obtain ⟨rfl, hh, hO8⟩ := hsd
                            have HFIN : Hid (o = .error 2) := HHN.out
                            have hB8 := hrw7.belowO hO8
                            clear h2c f2c hbd
                            obtain ⟨h2c, f2c⟩ := hh.e
                            go_wp2_with fail
                            go_quiet (fail)
                            go_wp2
                            go_ret3
                            exact rinflated_err (below_drewN hB8 _) (.inl rfl) HFIN.out
                          · obtain ⟨rfl, ha8, hO8⟩ := hsd
                            obtain ⟨hb4, hb5, hb6⟩ := hbd rfl
                            have HHD : Hid (o = blocksT T f x (codedD T L1 L2 f5 n l5 (distS T k I8))) := HHN.out
                            have hrw8 := hrw7.read hO8 ha8
                            have ht18 := ht17.only hO8 (by simp; omega)
                            have ht28 := ht27.only hO8 (by simp; omega)
                            have hdbd := @distS_bd T k I8
                            clear h2c f2c hbd hrw7 ha8 hO8 ht17 ht27 HHN
                            obtain ⟨h2c, f2c⟩ := hrw8.ha.cells
                            go_wp2_with fail
                            refine (rdist_any rb A cap T I8 k _ hrw8.ha hT (by omega)).mono ?_
                            intro e w9 hme
                            generalize distS T k I8 = o4 at *
                            rcases o4 with _ | ⟨d, I9⟩
                            · obtain ⟨⟨d, rfl⟩, hh, hO9⟩ := hme
                              have HFIN : Hid (o = .error 2) := HHD.out
                              have hB9 := hrw8.belowO hO9
                              have ht19 := ht18.only hO9 (by simp; omega)
                              have ht29 := ht28.only hO9 (by simp; omega)
                              clear h2c f2c hdbd HHD hrw8 hO9 ht18 ht28
                              obtain ⟨h2c, f2c⟩ := hh.e
                              go_wp2_with fail
                              go_loopw [19] (fun i wx => i = .int .i64 0 ∧ RHalt wx rb 2 ∧ Below w.heap.size w wx ∧ TextsAt wx w3.heap.size g1 L1 ∧ TextsAt wx w3.heap.size g2 L2) (fun _ _ => 0)
                              case atStart => exact ⟨rfl, hh, hB9, ht19, ht29⟩
                              case round =>
                                clear h2c f2c
                                obtain ⟨rfl, hhr, hBr, ht1r, ht2r⟩ := hrel
                                obtain ⟨h2r, f2r⟩ := hhr.e
                                have hmes := hhr.left (.inl rfl) (8 * T.length)
                                have HM6 := Lib.hid hmes
                                clear hmes
                                by_cases hn0 : 0 < n
                                · go_wp2
                                  go_roundw
                                  case rel => exact ⟨ht1r, ht2r, .inr ⟨hhr, hBr, HFIN.out⟩⟩
                                  case measure => rw [HM5.out, HM6.out]; omega
                                · go_wp2
                                  go_roundw
                                  case rel => exact ⟨ht1r, ht2r, .inr ⟨hhr, hBr, HFIN.out⟩⟩
                                  case measure => rw [HM5.out, HM6.out]; omega
                            · obtain ⟨rfl, ha9, hO9⟩ := hme
                              obtain ⟨hd1, hd2, hd3, hd4⟩ := hdbd rfl (by omega)
                              have HHT : Hid (o = blocksT T f x (if l5.length < d then .error 2 else codedTail T L1 L2 f5 I9 (copyS d n l5))) := HHD.out
                              have hrw9 := hrw8.read hO9 ha9
                              have ht19 := ht18.only hO9 (by simp; omega)
                              have ht29 := ht28.only hO9 (by simp; omega)
                              clear h2c f2c hdbd HHD hrw8 ha9 hO9 ht18 ht28
                              obtain ⟨h2c, f2c⟩ := hrw9.ha.cells
                              by_cases hdl : l5.length < d
                              · have HFIN : Hid (o = .error 2) := HHT.out.trans (congrArg (blocksT T f x) (if_pos hdl))
                                have hdI : (l5.length : Int) < (d : Int) := by omega
                                have hh := hrw9.ha.halt 2
                                have hB9 := (hrw9.b).setCell (p := ⟨rb, 2, none⟩) hrw9.lo (.int .i64 2)
                                have ht1s := ht19.only ((Only.refl [rb] _).set (.inl (List.mem_singleton.2 rfl)) 2 (.int .i64 2)) (by simp; omega)
                                have ht2s := ht29.only ((Only.refl [rb] _).set (.inl (List.mem_singleton.2 rfl)) 2 (.int .i64 2)) (by simp; omega)
                                clear hdl HHT
                                go_wp2_with fail
                                go_loopw [19] (fun i wx => i = .int .i64 0 ∧ RHalt wx rb 2 ∧ Below w.heap.size w wx ∧ TextsAt wx w3.heap.size g1 L1 ∧ TextsAt wx w3.heap.size g2 L2) (fun _ _ => 0)
                                case atStart => exact ⟨rfl, hh, hB9, ht1s, ht2s⟩
                                case round =>
                                  clear h2c f2c
                                  obtain ⟨rfl, hhr, hBr, ht1r, ht2r⟩ := hrel
                                  obtain ⟨h2r, f2r⟩ := hhr.e
                                  have hmes := hhr.left (.inl rfl) (8 * T.length)
                                  have HM6 := Lib.hid hmes
                                  clear hmes
                                  by_cases hn0 : 0 < n
                                  · go_wp2
                                    go_roundw
                                    case rel => exact ⟨ht1r, ht2r, .inr ⟨hhr, hBr, HFIN.out⟩⟩
                                    case measure => rw [HM5.out, HM6.out]; omega
                                  · go_wp2
                                    go_roundw
                                    case rel => exact ⟨ht1r, ht2r, .inr ⟨hhr, hBr, HFIN.out⟩⟩
                                    case measure => rw [HM5.out, HM6.out]; omega
                              · have hdI : ¬ (l5.length : Int) < (d : Int) := by omega
                                have HCP : Hid (o = blocksT T f x (codedTail T L1 L2 f5 I9 (copyS d (n - 0) l5))) := HHT.out.trans (congrArg (blocksT T f x) (if_neg hdl))
                                clear HHT
                                go_wp2_with fail
                                go_loopw [6, 19] (fun v i wx => RCopyRel w rb A cap T L1 L2 w3.heap.size g1 g2 I9 d n f f5 x o v i wx) (fun _ i _ => n - (intOf i).toNat)
                                case atStart => exact ⟨ht19, ht29, 0, l5, rfl, Nat.zero_le _, hrw9, by omega, HCP.out⟩
                                case round =>
                                  clear h2c f2c ht19 ht29 hrw9 HCP hdI hdl
                                  obtain ⟨ht1, ht2, j, l6, rfl, hj, hrw6, hdl, ho6⟩ := hrel
                                  obtain ⟨h2c, f2c⟩ := hrw6.ha.cells
                                  have HO6 := Lib.hid ho6
                                  clear ho6
                                  by_cases hjn : j < n
                                  · have hjb : decide ((j : Int) < (n : Int)) = true := by simp; omega
                                    have hls := copyS_step d (n - (j + 1)) l6
                                    rw [show n - (j + 1) + 1 = n - j by omega] at hls
                                    obtain ⟨g, cp, hv6, hgc⟩ := own_byte hrw6.hv (l6.length - d) (by omega)
                                    subst hv6
                                    generalize hbx : l6.getD (l6.length - d) 0 = y at *
                                    have HLS := Lib.hid hls
                                    have hlb6 := hrw6.hl
                                    have hsub : IntKind.i64.wrap ((l6.length : Int) - (d : Int)) = (l6.length : Int) - (d : Int) := IntWalk.i64_in _ (by omega)
                                    have hs1 : (0 : Int) ≤ (l6.length : Int) - (d : Int) := by omega
                                    have hs2 : (l6.length : Int) - (d : Int) < (l6.length : Int) := by omega
                                    have hs3 : ((l6.length : Int) - (d : Int)).toNat = l6.length - d := by omega
                                    clear hls hbx
                                    by_cases hfull : l6.length = 65536
                                    · have hfb : ((l6.length : Int) == 65536) = true := by simp; omega
                                      have HFIN : Hid (o = .error 3) := Lib.hid (by rw [HO6.out, HLS.out, if_neg (by omega)]; rfl)
                                      have hB7 := hrw6.b
                                      clear hfull hsub hs3
                                      go_wp2_with fail
                                      go_ret3
                                      exact rinflated_err hB7 (.inr rfl) HFIN.out
                                    · have hfb : ((l6.length : Int) == 65536) = false := by simp; omega
                                      have hl65 : l6.length < 65536 := by omega
                                      have HON : Hid (o = blocksT T f x (codedTail T L1 L2 f5 I9 (copyS d (n - (j + 1)) (l6 ++ [y])))) := Lib.hid (by rw [HO6.out, HLS.out, if_pos hl65])
                                      have hone := Lib.hid (one_u8 (y.toNat : Nat))
                                      have h63 := Lib.hid (le63_ (show l6.length + 1 ≤ 3000000 by omega))
                                      have hba := (Below.refl _ wr).alloc (Nat.le_refl _) (.cells #[.int .u8 (y.toNat : Nat)] 5)
                                      have hrw8 := hrw6.below hba
                                      have ht18 := ht1.below hba
                                      have ht28 := ht2.below hba
                                      have hown8 := hrw8.hv
                                      have hsrc := cell_src wr (.int .u8 (y.toNat : Nat)) 5
                                      have hz7 : rb + 1 ≤ wr.heap.size := by have := hrw6.ha.blk.lt; omega
                                      clear hba
                                      go_wp2_with (at_builtin; go_loud (refine wpList_append_src _ rfl (.tmp 193) (.tmp 201) 22 rfl (rb + 1) 5 i0 (.int .u8 0) 1 1 Try.underlying22 hi hz0 hz1 hz2 rfl (by decide) (.slice (some ⟨g, 0, none⟩) l6.length cp) l6.length (bytesV l6) rfl hown8 (some ⟨wr.heap.size, 0, none⟩) 1 1 [.int .u8 (y.toNat : Nat)] rfl rfl hsrc hone.out h63.out.1 h63.out.2 (by simp; omega) ?_; intro v' w9 hown9 hgrow9))
                                      have hrw9 := hrw8.grow (x := y) hl65 hown9 hgrow9
                                      have ht19 := ht18.grown hown8 hgrow9
                                      have ht29 := ht28.grown hown8 hgrow9
                                      clear hown9 hgrow9 hsrc hown8 hrw8 ht18 ht28 hsub hs3
                                      go_roundw
                                      case rel => exact ⟨ht19, ht29, j + 1, _, by go_num, by omega, hrw9, by simp; omega, HON.out⟩
                                      case measure => simp [intOf]; omega
                                  · have hjb : decide ((j : Int) < (n : Int)) = false := by simp; omega
                                    obtain rfl : j = n := by omega
                                    have HFIN : Hid (o = blocksT T f x (codedF T L1 L2 f5 I9 l6)) := Lib.hid (by rw [HO6.out, Nat.sub_self]; rfl)
                                    have hmes := hrw6.ha.left (8 * T.length)
                                    have HM6 := Lib.hid hmes
                                    clear hmes
                                    go_wp2
                                    go_roundw
                                    case rel => exact ⟨ht1, ht2, .inl ⟨I9, l6, f5, hrw6, by omega, by omega, HFIN.out⟩⟩
                                    case measure => rw [HM5.out, HM6.out]; omega
                · have HFIN := Lib.hid ho5
                  obtain ⟨h2c, f2c⟩ := hh.e
                  go_wp2_with fail
                  go_quiet (fail)
                  go_wp2
                  go_ret3
                  exact rinflated_err (below_drewN hB _) (.inl rfl) HFIN.out
    · have HOO := Lib.hid ho
      have hw1 : IntKind.i64.wrap ((I : Int) + 7) = (I : Int) + 7 := IntWalk.i64_in _ (by omega)
      clear ho
      go_wp2_with fail
      go_quiet (fail)
      go_wp2
      go_ret3
      exact rinflated_ok (hrw.drewN _) HOO.out (by omega)

end Go.Proofs.Ythceefhnmjjddaa
