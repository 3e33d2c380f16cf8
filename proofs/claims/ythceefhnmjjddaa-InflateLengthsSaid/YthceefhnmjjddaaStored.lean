/-
  The writer's stored, by a contract.
-/
import Derived.Test.YthceefhnmjjddaaAdd
namespace Go.Proofs.Ythceefhnmjjddaa
open Go.RowKit

/-- Reader, writer and text lie apart; S: the blocks that may be written. -/
structure Apart (S : List Nat) (rb wb : Nat) (A : Option Addr) : Prop where
  hr : rb ∈ S
  hw : wb ∈ S
  hA : ∀ a, A = some a → a.block ∉ S
  ne : rb ≠ wb

/-- The writer, of those that S and what is new since w0 hold. -/
def WOut (S : List Nat) (w0 w : World) (wb : Nat) (l : List UInt8) : Prop :=
  ∃ v, WAt w wb v l ∧ (∀ g, v.ownBlock = some g → g ∈ S ∨ w0.heap.size ≤ g) ∧ l.length ≤ 65536
/-- Reader and writer behind a block. -/
def Outs (S : List Nat) (w0 w : World) (rb wb : Nat) (A : Option Addr) (cap : Nat) (T : List UInt8) : Except Int (List UInt8 × Nat) → Prop
  | .ok (l, I) => Alive w rb A cap T I ∧ WOut S w0 w wb l
  | .error e => Halt w rb e ∧ (e = 2 ∨ e = 3)

theorem Halt.e {w : World} {b : Nat} {e : Int} (h : Halt w b e) : w.cell? ⟨b, 4, none⟩ = some (.int .i64 e) ∧ w.frozen? ⟨b, 4, none⟩ = false := by
  obtain ⟨_, _, _, _, hb⟩ := h
  exact ⟨hb.cell 4, hb.frozen 4⟩
theorem Halt.set {w : World} {b : Nat} {e : Int} (h : Halt w b e) (e' : Int) : Halt (w.setCell ⟨b, 4, none⟩ (.int .i64 e')) b e' := by
  obtain ⟨_, _, _, _, hb⟩ := h
  exact ⟨_, _, _, _, hb.set_ 4 _⟩

theorem Alive.align {w : World} {b : Nat} {A : Option Addr} {cap : Nat} {T : List UInt8} {I : Nat} (h : Alive w b A cap T I) : Alive (w.setCell ⟨b, 3, none⟩ (.int .i64 0)) b A cap T (8 * ((I + 7) / 8)) := by
  obtain ⟨⟨rest, n, hb, hn, hr, hr2⟩, htx, hf, hI⟩ := h
  refine ⟨⟨rest, 0, ?_, by omega, by omega, hr2⟩, htx.only (S := [b]) ((Only.refl _ w).set (by simp) _ _) (fun a ha => by simpa using hf a ha), hf, by omega⟩
  rw [show (8 * ((I + 7) / 8) + 7) / 8 = (I + 7) / 8 by omega]
  exact hb.set_ 3 _

/-- Where the reader's writing leaves the writer. -/
theorem WOut.reader {S : List Nat} {w0 w w' : World} {rb wb : Nat} {A : Option Addr} {l : List UInt8} {t : TypeId} {cs : Array Value} (h : WOut S w0 w wb l) (hO : Only [rb] w w') (hS : Apart S rb wb A) (hb : Blk w rb t cs) (ht : t ≠ 5) : WOut S w0 w' wb l := by
  obtain ⟨v, hw, hv, hl⟩ := h
  exact ⟨v, hw.only hO (by simp; exact fun e => hS.ne e.symm) (fun g hg => by have := hb.own_ne hw.own ht; rw [hg] at this; simp; exact fun e => this (by rw [e])), hv, hl⟩
theorem Alive.blk {w : World} {b : Nat} {A : Option Addr} {cap : Nat} {T : List UInt8} {I : Nat} (h : Alive w b A cap T I) : ∃ cs, Blk w b 46 cs := by
  obtain ⟨⟨rest, n, hb, _⟩, _⟩ := h
  exact ⟨_, hb⟩
theorem RAt.blk {w : World} {b : Nat} {A : Option Addr} {cap : Nat} {T : List UInt8} {s : Option Nat} (h : RAt w b A cap T s) : ∃ cs, Blk w b 46 cs := by
  cases s with
  | some I => exact Alive.blk h
  | none => obtain ⟨_, _, hb⟩ := h; exact ⟨_, hb⟩
theorem Only.one {S : List Nat} {w x y : World} {b : Nat} (h : Only S w x) (k : Only [b] x y) (hb : b ∈ S) : Only S w y := h.step k (by intro i hi; rw [List.mem_singleton] at hi; subst hi; exact .inl hb)

/-- A byte more, past the writer's add. -/
theorem added_out {S : List Nat} {w0 w w' : World} {rb wb : Nat} {A : Option Addr} {cap : Nat} {T : List UInt8} {I : Nat} {v : Value} {l : List UInt8} {x : UInt8} {e : Ending} (hS : Apart S rb wb A) (hr : Alive w rb A cap T I)
    (hw : WAt w wb v l) (hv : ∀ g, v.ownBlock = some g → g ∈ S ∨ w0.heap.size ≤ g) (hA : ∀ a, A = some a → a.block < w0.heap.size) (hO : Only S w0 w) (h : Added rb wb v l x w e w') :
    e = .returned (.tuple #[]) ∧ Only S w0 w' ∧ (if l.length < 65536 then Alive w' rb A cap T I ∧ WOut S w0 w' wb (l ++ [x]) else Halt w' rb 3) := by
  obtain ⟨rfl, h⟩ := h
  refine ⟨rfl, ?_⟩
  obtain ⟨cs, hrb⟩ := hr.blk
  split at h
  · rename_i hl
    rw [if_pos hl]
    obtain ⟨v', h1, h2, h3⟩ := h
    have hmem : ∀ i ∈ wb :: ownL v, i ∈ S ∨ w0.heap.size ≤ i := by
      intro i hi
      rcases List.mem_cons.1 hi with rfl | hi
      · exact .inl hS.hw
      · exact hv i (mem_ownL.1 hi)
    refine ⟨hO.step h2 hmem, hr.only h2 ?_ ?_, v', h1, ?_, by simp; omega⟩
    · intro hm
      rcases List.mem_cons.1 hm with hm | hm
      · exact hS.ne hm
      · exact hrb.own_ne hw.own (by decide) (mem_ownL.1 hm).symm
    · intro a ha hm
      rcases hmem _ hm with h | h
      · exact hS.hA a ha h
      · have := hA a ha; omega
    · intro g hg
      rcases h3 g hg with h | h
      · exact hv g h
      · exact .inr (Nat.le_trans hO.size h)
  · rename_i hl
    rw [if_neg hl]
    exact ⟨hO.one h.2 hS.hr, h.1⟩

/-- What a block's call gives. -/
def Blocked (S : List Nat) (w0 : World) (rb wb : Nat) (A : Option Addr) (cap : Nat) (T : List UInt8) (o : Except Int (List UInt8 × Nat)) (e : Ending) (w : World) : Prop :=
  e = .returned (.tuple #[]) ∧ Only S w0 w ∧ Outs S w0 w rb wb A cap T o
theorem blocked_err {S : List Nat} {w0 w : World} {rb wb : Nat} {A : Option Addr} {cap : Nat} {T : List UInt8} {o : Except Int (List UInt8 × Nat)} {k : Int} (ho : o = .error k) (hk : k = 2 ∨ k = 3) (hO : Only S w0 w) (h : Halt w rb k) :
    Blocked S w0 rb wb A cap T o (.returned (.tuple #[])) w := by subst ho; exact ⟨rfl, hO, h, hk⟩
theorem blocked_ok {S : List Nat} {w0 w : World} {rb wb : Nat} {A : Option Addr} {cap : Nat} {T : List UInt8} {o : Except Int (List UInt8 × Nat)} {l : List UInt8} {I : Nat} (ho : o = .ok (l, I)) (hO : Only S w0 w) (h : Alive w rb A cap T I) (hw : WOut S w0 w wb l) :
    Blocked S w0 rb wb A cap T o (.returned (.tuple #[])) w := by subst ho; exact ⟨rfl, hO, h, hw⟩
theorem storedK_ok {T l : List UInt8} {n m I : Nat} (h : n + m = 65535) : storedK T l n (m, some I) = bytesS T n I l := if_pos h
theorem storedK_no {T l : List UInt8} {n m I : Nat} (h : ¬ n + m = 65535) : storedK T l n (m, some I) = .error 2 := if_neg h

theorem Alive.alloc {w : World} {b : Nat} {A : Option Addr} {cap : Nat} {T : List UInt8} {I : Nat} (h : Alive w b A cap T I) (o : Obj) : Alive (w.alloc o) b A cap T I := h.only (S := []) ((Only.refl [] w).alloc o) (by simp) (by simp)
theorem WAt.alloc {w : World} {wb : Nat} {v : Value} {l : List UInt8} (h : WAt w wb v l) (o : Obj) : WAt (w.alloc o) wb v l := h.only (S := []) ((Only.refl [] w).alloc o) (by simp) (by simp)
def bytesK (T : List UInt8) (n : Nat) (out : List UInt8) : Nat × Option Nat → Except Int (List UInt8 × Nat)
  | (b, some I') => if out.length < 65536 then bytesS T n I' (out ++ [b.toUInt8]) else .error 3
  | (_, none) => .error 2
theorem bytesS_step (T : List UInt8) (n I : Nat) (out : List UInt8) : bytesS T (n + 1) I out = bytesK T n out (numS T (some I) 8) := by
  show (match numS T (some I) 8 with
    | (b, some I') => if out.length < 65536 then bytesS T n I' (out ++ [b.toUInt8]) else .error 3
    | (_, none) => .error 2) = _
  generalize numS T (some I) 8 = r
  obtain ⟨b, s⟩ := r
  cases s <;> rfl

def StoredRel (S : List Nat) (w0 : World) (rb wb : Nat) (A : Option Addr) (cap : Nat) (T : List UInt8) (n : Nat) (o : Except Int (List UInt8 × Nat)) (i : Value) (w : World) : Prop :=
  ∃ j : Nat, j ≤ n ∧ i = .int .i64 (j : Nat) ∧ Only S w0 w ∧
    ((∃ l I, Alive w rb A cap T I ∧ WOut S w0 w wb l ∧ o = bytesS T (n - j) I l) ∨ (∃ e, (e = 2 ∨ e = 3) ∧ Halt w rb e ∧ o = .error e))

theorem xor_all (n : Nat) (h : n < 2 ^ 16) : bits .xor .i64 (n : Int) 65535 = 65535 - (n : Int) := by
  have e : n ^^^ 65535 = 2 ^ 16 - (n + 1) := by
    apply Nat.eq_of_testBit_eq
    intro i
    rw [Nat.testBit_xor, show (65535 : Nat) = 2 ^ 16 - 1 from rfl, Nat.testBit_two_pow_sub_one, Nat.testBit_two_pow_sub_succ h]
    by_cases hi : i < 16
    · simp [hi]
    · have : n.testBit i = false := Nat.testBit_lt_two_pow (Nat.lt_of_lt_of_le h (Nat.pow_le_pow_right (by omega) (by omega)))
      simp [hi, this]
  have h2 : ((65535 : Nat) : Int) = 65535 := rfl
  have ha' : n % 2 ^ IntKind.i64.bits = n := Nat.mod_eq_of_lt (by show n < 2 ^ 64; omega)
  have hb' : 65535 % 2 ^ IntKind.i64.bits = 65535 := rfl
  rw [← h2]
  simp only [bits, BitVec.ofInt_natCast, BitVec.toNat_xor, BitVec.toNat_ofNat, ha', hb']
  rw [e, wraps_i64 _ (by omega) (by omega)]
  omega

set_option maxHeartbeats 2000000 in
set_option maxRecDepth 100000 in
theorem stored_any (S : List Nat) (rb wb : Nat) (A : Option Addr) (cap : Nat) (T : List UInt8) (I : Nat) (l : List UInt8) (w : World) (hS : Apart S rb wb A) (hr : Alive w rb A cap T I) (hw : WOut S w w wb l)
    (hA : ∀ a, A = some a → a.block < w.heap.size) (hT : T.length ≤ 1048576) :
    Calls Try.prog 18 #[.pointer (some ⟨wb, 0, none⟩), .pointer (some ⟨rb, 0, none⟩)] w (Blocked S w rb wb A cap T (storedS T I l)) := by
  have ho : storedS T I l = storedK T l (numS T (some (8 * ((I + 7) / 8))) 16).1 (numS T (numS T (some (8 * ((I + 7) / 8))) 16).2 16) := rfl
  generalize storedS T I l = o at *
  have ha1 := hr.align
  have hO1 : Only S w (w.setCell ⟨rb, 3, none⟩ (.int .i64 0)) := (Only.refl _ _).set (.inl hS.hr) _ _
  obtain ⟨cs, hrb⟩ := hr.blk
  have hw1 := hw.reader ((Only.refl [rb] w).set (.inl (List.mem_singleton.2 rfl)) 3 (.int .i64 0)) hS hrb (by decide)
  have hf3 := hrb.frozen 3
  obtain ⟨rest, n0, hb0, _⟩ := hr.cells
  have hc3 := hb0.cell 3
  simp at hc3
  clear hb0
  have HA1 := Lib.hid ha1
  clear ha1
  generalize 8 * ((I + 7) / 8) = I8 at *
  have HOO := Lib.hid ho
  clear ho
  go_enter Try.func18, Try.ntmps18
  go_wp2_with fail
  refine (number_any rb A cap T (some I8) 16 _ _ (by exact HA1.out) hT rfl (by omega)).mono ?_
  rintro e w2 ⟨rfl, hr2, hO2⟩
  go_wp2_with fail
  have h16 := numS_lt T (some I8) 16
  generalize numS T (some I8) 16 = r1 at *
  obtain ⟨n1, s1⟩ := r1
  simp only at hr2 h16 HOO
  refine (number_any rb A cap T s1 16 _ _ (by exact hr2) hT rfl (by omega)).mono ?_
  rintro e w3 ⟨rfl, hr3, hO3⟩
  have h162 := numS_lt T s1 16
  have HO3 := HOO.out
  generalize numS T s1 16 = r2 at *
  obtain ⟨n2, s2⟩ := r2
  simp only at hr3 h162 HO3
  have hw3 := (hw1.reader hO2 hS (hrb.set_ 3 (.int .i64 0)) (by decide))
  obtain ⟨cs2, hrb2⟩ := hr2.blk
  replace hw3 := hw3.reader hO3 hS hrb2 (by decide)
  have hO03 := (hO1.one hO2 hS.hr).one hO3 hS.hr
  clear hO1 hO2 hO3 hrb2 hr2 hw1
  have hxor := xor_all n2 h162
  rcases s2 with _ | I2
  · obtain ⟨h4, f4⟩ := Dead.e2 hr3
    have HF : Hid (o = .error 2) := HO3
    clear HO3
    go_wp2
    go_end0
    exact blocked_err HF.out (.inl rfl) (hO03.set (.inl hS.hr) _ _) (hr3.halt.set 2)
  · obtain ⟨h4, f4⟩ := Alive.e0 hr3
    by_cases hsum : n1 + n2 = 65535
    · have HF : Hid (o = bytesS T n1 I2 l) := HO3.trans (storedK_ok hsum)
      have hb : ((n1 : Int) != 65535 - (n2 : Int)) = false := by simp; omega
      clear HO3 hsum
      go_wp2_with fail
      go_loopw [6] (fun i wr => StoredRel S w rb wb A cap T n1 o i wr) (fun i _ => n1 - (intOf i).toNat)
      case atStart => exact ⟨0, by omega, rfl, hO03, .inl ⟨l, I2, hr3, hw3, by rw [Nat.sub_zero]; exact HF.out⟩⟩
      case round =>
        clear hr3 hw3 hO03 h4 f4 hxor hrb hf3 hc3 HA1
        obtain ⟨j, hj, rfl, hO, hcase⟩ := hrel
        rcases hcase with ⟨l', I', ha, hwo, ho⟩ | ⟨k, hk, hh, ho⟩
        · obtain ⟨h4, f4⟩ := ha.e0
          by_cases hlt : j < n1
          · have hlb : decide ((j : Int) < (n1 : Int)) = true := by simp; omega
            have HJ := Lib.hid ho
            clear ho
            go_wp2_with fail
            refine (number_any rb A cap T (some I') 8 _ _ (by exact ha) hT rfl (by omega)).mono ?_
            rintro e w4 ⟨rfl, hr4, hO4⟩
            have h8 := numS_lt T (some I') 8
            have hstep := bytesS_step T (n1 - (j + 1)) I' l'
            obtain ⟨cs2, hrb2⟩ := Alive.blk ha
            have hwo4 := hwo.reader hO4 hS hrb2 (by decide)
            have hO5 := hO.one hO4 hS.hr
            generalize numS T (some I') 8 = r3 at *
            obtain ⟨x, s4⟩ := r3
            simp only at hr4 h8
            have HST := Lib.hid hstep
            clear hstep hrb2 ha hwo h4 f4 hO4 hO
            rcases s4 with _ | I4
            · obtain ⟨h4, f4⟩ := Dead.e2 hr4
              go_wp2
              go_roundw
              case rel => exact ⟨j + 1, by omega, by go_num, hO5, .inr ⟨2, .inl rfl, hr4.halt, by rw [HJ.out, show n1 - j = n1 - (j + 1) + 1 by omega]; exact HST.out⟩⟩
              case measure => simp [intOf]; omega
            · obtain ⟨h4, f4⟩ := Alive.e0 hr4
              have hw8 : IntKind.u8.wrap (x : Int) = (x : Int) := IntWalk.u8_in _ (by omega)
              obtain ⟨v, hwa, hv, hvl⟩ := hwo4
              have hxx : x.toUInt8.toNat = x := by simp; omega
              go_wp2_with fail
              have ha5 := hr4.alloc (.cells #[.int .u8 (x : Nat)] 5)
              have hwa5 := hwa.alloc (.cells #[.int .u8 (x : Nat)] 5)
              refine (add_any rb wb w4.heap.size A cap T I4 v l' x.toUInt8 _ (by exact ha5) (by exact hwa5) hvl (by rw [hxx]; exact (Blk.new w4 5 _).cell 0)).mono ?_
              intro e w5 hadd
              obtain ⟨rfl, hO6, hif⟩ := added_out hS ha5 hwa5 hv hA (hO5.alloc _) hadd
              clear hadd ha5 hwa5 hwa h4 f4
              by_cases hl65 : l'.length < 65536
              · rw [if_pos hl65] at hif
                have hfin : o = bytesS T (n1 - (j + 1)) I4 (l' ++ [x.toUInt8]) := by
                  rw [HJ.out, show n1 - j = n1 - (j + 1) + 1 by omega, HST.out]
                  exact if_pos hl65
                have HFIN := Lib.hid hfin
                clear hfin hl65 hxx
                obtain ⟨ha6, hw6⟩ := hif
                go_wp2
                go_roundw
                case rel => exact ⟨j + 1, by omega, by go_num, hO6, .inl ⟨_, I4, ha6, hw6, HFIN.out⟩⟩
                case measure => simp [intOf]; omega
              · rw [if_neg hl65] at hif
                have hfin : o = .error 3 := by
                  rw [HJ.out, show n1 - j = n1 - (j + 1) + 1 by omega, HST.out]
                  exact if_neg hl65
                have HFIN := Lib.hid hfin
                clear hfin hl65 hxx
                go_wp2
                go_roundw
                case rel => exact ⟨j + 1, by omega, by go_num, hO6, .inr ⟨3, .inr rfl, hif, HFIN.out⟩⟩
                case measure => simp [intOf]; omega
          · obtain rfl : j = n1 := by omega
            rw [Nat.sub_self] at ho
            have HFIN : Hid (o = .ok (l', I')) := ho
            clear ho
            go_wp2
            go_end0
            exact blocked_ok HFIN.out hO ha hwo
        · obtain ⟨h4, f4⟩ := hh.e
          have hke : ((k : Int) == 0) = false := by simp; omega
          have HFIN := Lib.hid ho
          have HK := Lib.hid hk
          clear ho hk
          by_cases hlt : j < n1
          · go_wp2
            go_end0
            exact blocked_err HFIN.out HK.out hO hh
          · go_wp2
            go_end0
            exact blocked_err HFIN.out HK.out hO hh
    · have HF : Hid (o = .error 2) := HO3.trans (storedK_no hsum)
      have hb : ((n1 : Int) != 65535 - (n2 : Int)) = true := by simp; omega
      clear HO3 hsum
      go_wp2
      go_end0
      exact blocked_err HF.out (.inl rfl) (hO03.set (.inl hS.hr) _ _) (Alive.halt hr3 2)

end Go.Proofs.Ythceefhnmjjddaa
