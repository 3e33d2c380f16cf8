/-
  The writer's coded, by a contract.
-/
import Derived.Test.YthceefhnmjjddaaStored
import Derived.StillTailTactics
namespace Go.Proofs.Ythceefhnmjjddaa
open Go.RowKit

/-- How much is left to read; 0 behind a fault. -/
def leftW (rb N : Nat) (w : World) : Nat :=
  match w.cell? ⟨rb, 4, none⟩, w.cell? ⟨rb, 1, none⟩, w.cell? ⟨rb, 3, none⟩ with
  | some (.int _ 0), some (.int _ a), some (.int _ n) => 1 + (N - (8 * a.toNat - n.toNat))
  | _, _, _ => 0
theorem Alive.left {w : World} {b : Nat} {A : Option Addr} {cap : Nat} {T : List UInt8} {I : Nat} (h : Alive w b A cap T I) (N : Nat) : leftW b N w = 1 + (N - I) := by
  obtain ⟨⟨rest, n, hb, hn, _⟩, _⟩ := h
  have h1 := hb.cell 1
  have h3 := hb.cell 3
  have h4 := hb.cell 4
  simp at h1 h3 h4
  unfold leftW
  rw [h1, h3, h4]
  simp only [Int.toNat_natCast]
  rw [show 8 * (((I : Int) + 7) / 8).toNat - n = I by omega]
theorem Halt.left {w : World} {b : Nat} {e : Int} (h : Halt w b e) (he : e = 2 ∨ e = 3) (N : Nat) : leftW b N w = 0 := by
  have h4 := h.e.1
  unfold leftW
  rw [h4]
  split
  · rename_i h1 _ _
    injection h1 with h1
    injection h1 with _ h1
    omega
  · rfl

/-- A table apart from what may be written. -/
structure TabOut (S : List Nat) (w : World) (tb : Nat) (L : List Nat) : Prop where
  tab : ∃ A c, TabAt w tb A c L ∧ (∀ a, A = some a → a.block ∉ S ∧ a.block < w.heap.size)
  out : tb ∉ S
  len : L.length ≤ 288

def codedTail (T : List UInt8) (L1 L2 : List Nat) (f I : Nat) : Except Int (List UInt8) → Except Int (List UInt8 × Nat)
  | .error e => .error e
  | .ok out' => codedF T L1 L2 f I out'
def codedD (T : List UInt8) (L1 L2 : List Nat) (f n : Nat) (out : List UInt8) : Option (Nat × Nat) → Except Int (List UInt8 × Nat)
  | none => .error 2
  | some (d, I4) => if out.length < d then .error 2 else codedTail T L1 L2 f I4 (copyS d n out)
def codedN (T : List UInt8) (L1 L2 : List Nat) (f n : Nat) (out : List UInt8) : Option (Nat × Nat) → Except Int (List UInt8 × Nat)
  | none => .error 2
  | some (k, I3) => codedD T L1 L2 f n out (distS T k I3)
def codedM (T : List UInt8) (L1 L2 : List Nat) (f : Nat) (out : List UInt8) : Option (Nat × Nat) → Except Int (List UInt8 × Nat)
  | none => .error 2
  | some (n, I2) => codedN T L1 L2 f n out (signS T L2 I2)
def codedK (T : List UInt8) (L1 L2 : List Nat) (f : Nat) (out : List UInt8) : Option (Nat × Nat) → Except Int (List UInt8 × Nat)
  | none => .error 2
  | some (s, I1) =>
    if s = 256 then .ok (out, I1)
    else if s < 256 then
      if out.length < 65536 then codedF T L1 L2 f I1 (out ++ [s.toUInt8]) else .error 3
    else codedM T L1 L2 f out (lengthS T s I1)
theorem codedF_step (T : List UInt8) (L1 L2 : List Nat) (f I : Nat) (out : List UInt8) : codedF T L1 L2 (f + 1) I out = codedK T L1 L2 f out (signS T L1 I) := by
  conv => lhs; unfold codedF
  generalize signS T L1 I = o1
  cases o1 with
  | none => rfl
  | some p =>
    obtain ⟨s, I1⟩ := p
    simp only [codedK]
    congr 1

theorem TabOut.at_ {S : List Nat} {w w' : World} {tb : Nat} {L : List Nat} (h : TabOut S w tb L) (hO : Only S w w') : ∃ A c, TabAt w' tb A c L ∧ ∀ a, A = some a → a.block ∉ S := by
  obtain ⟨A, c, ht, hA⟩ := h.tab
  exact ⟨A, c, ht.only hO h.out (fun a ha => (hA a ha).1), fun a ha => (hA a ha).1⟩
theorem codedK_some {T : List UInt8} {L1 L2 : List Nat} {f : Nat} {out : List UInt8} {s I1 : Nat} (h1 : ¬ s = 256) (h2 : ¬ s < 256) : codedK T L1 L2 f out (some (s, I1)) = codedM T L1 L2 f out (lengthS T s I1) := by
  show (if s = 256 then _ else if s < 256 then _ else _) = _
  rw [if_neg h1, if_neg h2]
theorem codedK_byte {T : List UInt8} {L1 L2 : List Nat} {f : Nat} {out : List UInt8} {s I1 : Nat} (h1 : ¬ s = 256) (h2 : s < 256) : codedK T L1 L2 f out (some (s, I1)) = if out.length < 65536 then codedF T L1 L2 f I1 (out ++ [s.toUInt8]) else .error 3 := by
  show (if s = 256 then _ else if s < 256 then _ else _) = _
  rw [if_neg h1, if_pos h2]

def CodedRel (S : List Nat) (w0 : World) (rb wb : Nat) (A : Option Addr) (cap : Nat) (T : List UInt8) (L1 L2 : List Nat) (o : Except Int (List UInt8 × Nat)) (w : World) : Prop :=
  Only S w0 w ∧ ((∃ l I f, Alive w rb A cap T I ∧ WOut S w0 w wb l ∧ 8 * T.length - I < f ∧ o = codedF T L1 L2 f I l) ∨ (∃ e, (e = 2 ∨ e = 3) ∧ Halt w rb e ∧ o = .error e))
theorem WAt.same {w w' : World} {wb : Nat} {v : Value} {l : List UInt8} (h : WAt w wb v l) (hh : w'.heap = w.heap) : WAt w' wb v l :=
  ⟨by unfold Blk; rw [hh]; exact h.cells, own_block h.own fun k _ => by rw [hh]⟩
theorem Only.into {S : List Nat} {w x y : World} (h : Only S w x) (hh : y.heap = x.heap) (h1 : y.os = x.os) (h2 : y.tape = x.tape) (h3 : y.output = x.output) : Only S w y :=
  ⟨h1.trans h.os, h2.trans h.tape, h3.trans h.output, by rw [hh]; exact h.size, fun k hk hm => by rw [hh]; exact h.block k hk hm⟩
/-- The writer's add on a byte that was just boxed. -/
theorem copied {S : List Nat} {w0 wr : World} {rb wb : Nat} {A : Option Addr} {cap : Nat} {T : List UInt8} {I : Nat} {v : Value} {l : List UInt8} (hS : Apart S rb wb A) (hr : Alive wr rb A cap T I)
    (hw : WAt wr wb v l) (hv : ∀ g, v.ownBlock = some g → g ∈ S ∨ w0.heap.size ≤ g) (hl : l.length ≤ 65536) (hA : ∀ a, A = some a → a.block < w0.heap.size) (hO : Only S w0 wr) (x : UInt8) (W : World)
    (hh : W.heap = (wr.alloc (.cells #[.int .u8 (x.toNat : Nat)] 5)).heap) (h1 : W.os = wr.os) (h2 : W.tape = wr.tape) (h3 : W.output = wr.output) :
    Calls Try.prog 33 #[.pointer (some ⟨wb, 0, none⟩), .pointer (some ⟨rb, 0, none⟩), .slice (some ⟨wr.heap.size, 0, none⟩) 1 1] W fun e w' =>
      e = .returned (.tuple #[]) ∧ Only S w0 w' ∧ (if l.length < 65536 then Alive w' rb A cap T I ∧ WOut S w0 w' wb (l ++ [x]) else Halt w' rb 3) := by
  have ha := (hr.alloc (.cells #[.int .u8 (x.toNat : Nat)] 5)).same hh
  have hwa := (hw.alloc (.cells #[.int .u8 (x.toNat : Nat)] 5)).same hh
  have hOW := (hO.alloc (.cells #[.int .u8 (x.toNat : Nat)] 5)).into hh h1 h2 h3
  refine (add_any rb wb wr.heap.size A cap T I v l x W ha hwa hl ?_).mono ?_
  · have := (Blk.new wr 5 #[.int .u8 (x.toNat : Nat)]).cell 0
    simpa [World.cell?, hh] using this
  · intro e w' hadd
    exact added_out hS ha hwa hv hA hOW hadd
theorem copyS_step (d n : Nat) (out : List UInt8) : copyS d (n + 1) out = if out.length < 65536 then copyS d n (out ++ [out.getD (out.length - d) 0]) else .error 3 := rfl
def CopyRel (S : List Nat) (w0 : World) (rb wb : Nat) (A : Option Addr) (cap : Nat) (T : List UInt8) (L1 L2 : List Nat) (f I d n : Nat) (o : Except Int (List UInt8 × Nat)) (i : Value) (w : World) : Prop :=
  ∃ j : Nat, j ≤ n ∧ i = .int .i64 (j : Nat) ∧ Only S w0 w ∧ ((∃ l, Alive w rb A cap T I ∧ WOut S w0 w wb l ∧ d ≤ l.length ∧ o = codedTail T L1 L2 f I (copyS d (n - j) l)) ∨ (∃ e, (e = 2 ∨ e = 3) ∧ Halt w rb e ∧ o = .error e))
theorem moreS_bd {T : List UInt8} {I m c n I' : Nat} (hI : I ≤ 8 * T.length) (h : moreS c (numS T (some I) m) = some (n, I')) : c ≤ n ∧ n < c + 2 ^ m ∧ I ≤ I' ∧ I' ≤ 8 * T.length := by
  have hlt := numS_lt T (some I) m
  have hle := numS_le T I m
  generalize numS T (some I) m = r at *
  obtain ⟨v, s⟩ := r
  cases s with
  | none => cases h
  | some I2 =>
    injection h with h
    injection h with h1 h2
    have := hle I2 rfl hI
    simp only at hlt
    omega
theorem lengthS_bd {T : List UInt8} {s I n I' : Nat} (h : lengthS T s I = some (n, I')) (hI : I ≤ 8 * T.length) : n ≤ 1024 ∧ I ≤ I' ∧ I' ≤ 8 * T.length := by
  unfold lengthS at h
  split at h
  · injection h with h; injection h with h1 h2; omega
  · split at h
    · injection h with h; injection h with h1 h2; omega
    · split at h
      · cases h
      · have := moreS_bd hI h
        have hm : (s - 261) / 4 ≤ 5 := by omega
        have hp : 2 ^ ((s - 261) / 4) ≤ 2 ^ 5 := Nat.pow_le_pow_right (by omega) hm
        have hq : (4 + (s - 261) % 4) * 2 ^ ((s - 261) / 4) ≤ 7 * 2 ^ 5 := Nat.mul_le_mul (by omega) hp
        omega
theorem distS_bd {T : List UInt8} {s I n I' : Nat} (h : distS T s I = some (n, I')) (hI : I ≤ 8 * T.length) : 1 ≤ n ∧ n ≤ 65536 ∧ I ≤ I' ∧ I' ≤ 8 * T.length := by
  unfold distS at h
  split at h
  · injection h with h; injection h with h1 h2; omega
  · split at h
    · cases h
    · have := moreS_bd hI h
      have hm : (s - 2) / 2 ≤ 13 := by omega
      have hp : 2 ^ ((s - 2) / 2) ≤ 2 ^ 13 := Nat.pow_le_pow_right (by omega) hm
      have hq : (2 + s % 2) * 2 ^ ((s - 2) / 2) ≤ 3 * 2 ^ 13 := Nat.mul_le_mul (by omega) hp
      omega
theorem own_byte {w : World} {base : Nat} {v : Value} {l : List UInt8} (h : w.ownsRow base 5 1 v l.length (bytesV l)) (i : Nat) (hi : i < l.length) : ∃ g cap, v = .slice (some ⟨g, 0, none⟩) l.length cap ∧ w.cell? ⟨g, i, none⟩ = some (.int .u8 ((l.getD i 0).toNat : Nat)) := by
  rcases h.2 with ⟨rfl, hn⟩ | ⟨g, cap, cur, rfl, hb, hg, hnc, hcm, hcs, htk⟩
  · omega
  · refine ⟨g, cap, rfl, ?_⟩
    have hv : (bytesV l)[i]? = some (.int .u8 ((l.getD i 0).toNat : Nat)) := by simp [bytesV, hi]
    have hc := h.cells (g := g) rfl i _ hv
    have hadd : (⟨g, 0, none⟩ : Addr).add i = ⟨g, i, none⟩ := by
      unfold Addr.add
      split
      · rename_i h; subst h; rfl
      · simp
    rw [hadd] at hc
    exact hc

set_option maxHeartbeats 4000000 in
set_option maxRecDepth 100000 in
theorem coded_any (S : List Nat) (rb wb t1 t2 : Nat) (L1 L2 : List Nat) (A : Option Addr) (cap : Nat) (T : List UInt8) (I : Nat) (l : List UInt8) (w : World) (hS : Apart S rb wb A) (hr : Alive w rb A cap T I) (hw : WOut S w w wb l)
    (hA : ∀ a, A = some a → a.block < w.heap.size) (hT : T.length ≤ 1048576) (ht1 : TabOut S w t1 L1) (ht2 : TabOut S w t2 L2) :
    Calls Try.prog 21 #[.pointer (some ⟨wb, 0, none⟩), .pointer (some ⟨rb, 0, none⟩), .pointer (some ⟨t1, 0, none⟩), .pointer (some ⟨t2, 0, none⟩)] w (Blocked S w rb wb A cap T (codedS T L1 L2 I l)) := by
  have ho : codedS T L1 L2 I l = codedF T L1 L2 (8 * T.length + 1) I l := rfl
  generalize codedS T L1 L2 I l = o at *
  have HO := Lib.hid ho
  clear ho
  go_enter Try.func21, Try.ntmps21
  go_wp2_with fail
  go_loopw [8] (fun _ wr => CodedRel S w rb wb A cap T L1 L2 o wr) (fun _ wr => leftW rb (8 * T.length) wr)
  case atStart => exact ⟨Only.refl _ _, .inl ⟨l, I, _, hr, hw, by omega, HO.out⟩⟩
  case round =>
    obtain ⟨hO, hcase⟩ := hrel
    rcases hcase with ⟨l', I', f, ha, hwo, hf, ho⟩ | ⟨k, hk, hh, ho⟩
    · obtain ⟨h4, f4⟩ := ha.e0
      obtain ⟨f, rfl⟩ : ∃ f', f = f' + 1 := ⟨f - 1, by omega⟩
      rw [codedF_step] at ho
      have HJ := Lib.hid ho
      have hmes := ha.left (8 * T.length)
      have HM := Lib.hid hmes
      clear ho hmes hr hw
      obtain ⟨A1, c1, hta1, hfa1⟩ := ht1.at_ hO
      go_wp2_with fail
      refine (sign_any rb t1 A A1 cap c1 T L1 I' _ ha hT hta1 (fun e => ht1.out (by rw [e]; exact hS.hr)) (fun a h1 h2 => hfa1 a h1 (by rw [h2]; exact hS.hr)) (by have := ht1.len; omega)).mono ?_
      intro e w3 hsd
      obtain ⟨cs2, hrb2⟩ := Alive.blk ha
      have hbd := @signS_bd T L1 I'
      generalize signS T L1 I' = o1 at *
      rcases o1 with _ | ⟨s, I1⟩
      · obtain ⟨rfl, hh, hO3⟩ := hsd
        have HFIN : Hid (o = .error 2) := HJ.out
        obtain ⟨h4, f4⟩ := hh.e
        go_wp2
        go_end0
        exact blocked_err HFIN.out (.inl rfl) (hO.one hO3 hS.hr) hh
      · obtain ⟨rfl, ha3, hO3⟩ := hsd
        obtain ⟨hb1, hb2, hb3⟩ := hbd rfl
        have hs288 : s < 288 := by have := ht1.len; omega
        have hwo3 := hwo.reader hO3 hS hrb2 (by decide)
        have hO4 := hO.one hO3 hS.hr
        obtain ⟨h4, f4⟩ := ha3.e0
        clear hwo ha hO hO3 hrb2 hta1 hfa1 hb3
        by_cases hs256 : s = 256
        · subst hs256
          have HFIN : Hid (o = .ok (l', I1)) := HJ.out
          go_wp2
          go_end0
          exact blocked_ok HFIN.out hO4 ha3 hwo3
        · have hsb : ((s : Int) == 256) = false := by simp; omega
          have HS := Lib.hid hs256
          by_cases hlt : s < 256
          · have hfin := HJ.out.trans (codedK_byte hs256 hlt)
            have hw8 : IntKind.u8.wrap (s : Int) = (s : Int) := IntWalk.u8_in _ (by omega)
            obtain ⟨v, hwa, hv, hvl⟩ := hwo3
            have hxx : s.toUInt8.toNat = s := by simp; omega
            clear hs256
            go_wp2_with fail
            have ha5 := ha3.alloc (.cells #[.int .u8 (s : Nat)] 5)
            have hwa5 := hwa.alloc (.cells #[.int .u8 (s : Nat)] 5)
            refine (add_any rb wb w3.heap.size A cap T I1 v l' s.toUInt8 _ (by exact ha5) (by exact hwa5) hvl (by rw [hxx]; exact (Blk.new w3 5 _).cell 0)).mono ?_
            intro e w5 hadd
            obtain ⟨rfl, hO6, hif⟩ := added_out hS ha5 hwa5 hv hA (hO4.alloc _) hadd
            clear hadd ha5 hwa5 hwa h4 f4
            by_cases hl65 : l'.length < 65536
            · rw [if_pos hl65] at hif hfin
              have HFIN := Lib.hid hfin
              clear hfin hl65 hxx
              obtain ⟨ha6, hw6⟩ := hif
              have hmes := ha6.left (8 * T.length)
              have HM6 := Lib.hid hmes
              clear hmes
              go_wp2
              go_roundw
              case rel => exact ⟨hO6, .inl ⟨_, I1, f, ha6, hw6, by omega, HFIN.out⟩⟩
              case measure => rw [HM.out, HM6.out]; omega
            · rw [if_neg hl65] at hif hfin
              have HFIN := Lib.hid hfin
              clear hfin hl65 hxx
              have hmes := hif.left (.inr rfl) (8 * T.length)
              have HM6 := Lib.hid hmes
              clear hmes
              go_wp2
              go_roundw
              case rel => exact ⟨hO6, .inr ⟨3, .inr rfl, hif, HFIN.out⟩⟩
              case measure => rw [HM.out, HM6.out]; omega
          · have hfin := HJ.out.trans (codedK_some hs256 hlt)
            clear hs256
            have hHJ := Lib.hid hfin
            have hlb := @lengthS_bd T s I1
            clear hfin
            go_wp2_with fail
            refine (length_any rb A cap T I1 s _ ha3 hT (by have := HS.out; omega) (by omega)).mono ?_
            intro e w5 hme
            obtain ⟨cs3, hrb3⟩ := Alive.blk ha3
            generalize lengthS T s I1 = o2 at *
            rcases o2 with _ | ⟨n, I2⟩
            · obtain ⟨⟨n, rfl⟩, hh, hO5⟩ := hme
              have HFIN : Hid (o = .error 2) := hHJ.out
              obtain ⟨h4, f4⟩ := hh.e
              go_wp2
              go_end0
              exact blocked_err HFIN.out (.inl rfl) (hO4.one hO5 hS.hr) hh
            · obtain ⟨rfl, ha5, hO5⟩ := hme
              have hHN : Hid (o = codedN T L1 L2 f n l' (signS T L2 I2)) := hHJ.out
              obtain ⟨hn1, hn2, hn3⟩ := hlb rfl (by omega)
              have hwo5 := hwo3.reader hO5 hS hrb3 (by decide)
              have hO6 := hO4.one hO5 hS.hr
              obtain ⟨h4, f4⟩ := ha5.e0
              clear hwo3 ha3 hO4 hO5 hrb3 hHJ hlb HJ
              obtain ⟨A2, c2, hta2, hfa2⟩ := ht2.at_ hO6
              go_wp2_with fail
              refine (sign_any rb t2 A A2 cap c2 T L2 I2 _ ha5 hT hta2 (fun e => ht2.out (by rw [e]; exact hS.hr)) (fun a h1 h2 => hfa2 a h1 (by rw [h2]; exact hS.hr)) (by have := ht2.len; omega)).mono ?_
              intro e w7 hsd
              obtain ⟨cs4, hrb4⟩ := Alive.blk ha5
              have hbd := @signS_bd T L2 I2
              generalize signS T L2 I2 = o3 at *
              rcases o3 with _ | ⟨k, I3⟩
              · obtain ⟨rfl, hh, hO7⟩ := hsd
                have HFIN : Hid (o = .error 2) := hHN.out
                obtain ⟨h4, f4⟩ := hh.e
                go_wp2
                go_end0
                exact blocked_err HFIN.out (.inl rfl) (hO6.one hO7 hS.hr) hh
              · obtain ⟨rfl, ha7, hO7⟩ := hsd
                have hHD : Hid (o = codedD T L1 L2 f n l' (distS T k I3)) := hHN.out
                obtain ⟨hb4, hb5, hb6⟩ := hbd rfl
                have hk288 : k < 288 := by have := ht2.len; omega
                have hwo7 := hwo5.reader hO7 hS hrb4 (by decide)
                have hO8 := hO6.one hO7 hS.hr
                obtain ⟨h4, f4⟩ := ha7.e0
                clear hwo5 ha5 hO6 hO7 hrb4 hHN hta2 hfa2 hb6
                have hdb := @distS_bd T k I3
                go_wp2_with fail
                refine (distance_any rb A cap T I3 k _ ha7 hT (by omega)).mono ?_
                intro e w9 hme
                obtain ⟨cs5, hrb5⟩ := Alive.blk ha7
                generalize distS T k I3 = o4 at *
                rcases o4 with _ | ⟨d, I4⟩
                · obtain ⟨⟨d, rfl⟩, hh, hO9⟩ := hme
                  have HFIN : Hid (o = .error 2) := hHD.out
                  obtain ⟨h4, f4⟩ := hh.e
                  go_wp2_with fail
                  go_loopw [12] (fun i wr => i = .int .i64 0 ∧ Halt wr rb 2 ∧ Only S w wr) (fun _ _ => 0)
                  case atStart => exact ⟨rfl, hh, hO8.one hO9 hS.hr⟩
                  case round =>
                    clear hh h4 f4
                    obtain ⟨rfl, hh, hO⟩ := hrel
                    obtain ⟨h4, f4⟩ := hh.e
                    have hmes := hh.left (.inl rfl) (8 * T.length)
                    have HM6 := Lib.hid hmes
                    clear hmes
                    by_cases hn0 : 0 < n
                    · go_wp2
                      go_roundw
                      case rel => exact ⟨hO, .inr ⟨2, .inl rfl, hh, HFIN.out⟩⟩
                      case measure => rw [HM.out, HM6.out]; omega
                    · go_wp2
                      go_roundw
                      case rel => exact ⟨hO, .inr ⟨2, .inl rfl, hh, HFIN.out⟩⟩
                      case measure => rw [HM.out, HM6.out]; omega
                · obtain ⟨rfl, ha9, hO9⟩ := hme
                  obtain ⟨hd1, hd2, hd3, hd4⟩ := hdb rfl (by omega)
                  have hwo9 := hwo7.reader hO9 hS hrb5 (by decide)
                  have hO10 := hO8.one hO9 hS.hr
                  obtain ⟨h4, f4⟩ := ha9.e0
                  have hHT : Hid (o = if l'.length < d then .error 2 else codedTail T L1 L2 f I4 (copyS d n l')) := hHD.out
                  clear hwo7 ha7 hO8 hO9 hrb5 hHD hdb
                  by_cases hdl : l'.length < d
                  · have HFIN : Hid (o = .error 2) := hHT.out.trans (if_pos hdl)
                    obtain ⟨v9, hwa9, hv9, hvl9⟩ := hwo9
                    obtain ⟨A9, c9, rfl⟩ := own_slice hwa9.own
                    have hcw := hwa9.cells.cell 0
                    simp at hcw
                    have hh := ha9.halt 2
                    go_wp2_with fail
                    go_loopw [12] (fun i wr => i = .int .i64 0 ∧ Halt wr rb 2 ∧ Only S w wr) (fun _ _ => 0)
                    case atStart => exact ⟨rfl, hh, hO10.set (.inl hS.hr) _ _⟩
                    case round =>
                      clear hh h4 f4 hcw
                      obtain ⟨rfl, hh, hO⟩ := hrel
                      obtain ⟨h4, f4⟩ := hh.e
                      have hmes := hh.left (.inl rfl) (8 * T.length)
                      have HM6 := Lib.hid hmes
                      clear hmes
                      by_cases hn0 : 0 < n
                      · go_wp2
                        go_roundw
                        case rel => exact ⟨hO, .inr ⟨2, .inl rfl, hh, HFIN.out⟩⟩
                        case measure => rw [HM.out, HM6.out]; omega
                      · go_wp2
                        go_roundw
                        case rel => exact ⟨hO, .inr ⟨2, .inl rfl, hh, HFIN.out⟩⟩
                        case measure => rw [HM.out, HM6.out]; omega
                  · have HFIN : Hid (o = codedTail T L1 L2 f I4 (copyS d n l')) := hHT.out.trans (if_neg hdl)
                    have hwk := hwo9
                    obtain ⟨v9, hwa9, hv9, hvl9⟩ := hwk
                    obtain ⟨A9, c9, rfl⟩ := own_slice hwa9.own
                    have hcw := hwa9.cells.cell 0
                    simp at hcw
                    go_wp2_with fail
                    go_loopw [12] (fun i wr => CopyRel S w rb wb A cap T L1 L2 f I4 d n o i wr) (fun i _ => n - (intOf i).toNat)
                    case atStart => exact ⟨0, by omega, rfl, hO10, .inl ⟨l', ha9, hwo9, by omega, by rw [Nat.sub_zero]; exact HFIN.out⟩⟩
                    case round =>
                      clear ha9 hwo9 hO10 h4 f4 hcw hwa9 hv9 hvl9 hHT HFIN
                      obtain ⟨j, hj, rfl, hO, hcase⟩ := hrel
                      rcases hcase with ⟨l2, ha, hwo, hdl2, ho⟩ | ⟨e, he, hh, ho⟩
                      · have HJ2 := Lib.hid ho
                        clear ho
                        obtain ⟨h4, f4⟩ := ha.e0
                        by_cases hlt2 : j < n
                        · have hd0 : 0 < d := hd1
                          obtain ⟨v, hwa, hv, hvl⟩ := hwo
                          obtain ⟨g, cp, rfl, hgc⟩ := own_byte hwa.own (l2.length - d) (by omega)
                          have hcw := hwa.cells.cell 0
                          simp at hcw
                          have hls := copyS_step d (n - (j + 1)) l2
                          rw [show n - (j + 1) + 1 = n - j by omega] at hls
                          generalize hbx : l2.getD (l2.length - d) 0 = x at *
                          have HLS := Lib.hid hls
                          have hsub : IntKind.i64.wrap ((l2.length : Int) - (d : Int)) = (l2.length : Int) - (d : Int) := IntWalk.i64_in _ (by omega)
                          have hs1 : (0 : Int) ≤ (l2.length : Int) - (d : Int) := by omega
                          have hs2 : (l2.length : Int) - (d : Int) < (l2.length : Int) := by omega
                          have hs3 : ((l2.length : Int) - (d : Int)).toNat = l2.length - d := by omega
                          have hjb : decide ((j : Int) < (n : Int)) = true := by simp; omega
                          clear hls hbx
                          go_wp2_with fail
                          by_cases hl65 : l2.length < 65536
                          · have hfin : o = codedTail T L1 L2 f I4 (copyS d (n - (j + 1)) (l2 ++ [x])) := by rw [HJ2.out, HLS.out, if_pos hl65]
                            have HFIN := Lib.hid hfin
                            have HL := Lib.hid hl65
                            clear hfin hl65
                            go_region_with (go_at_call 33; refine (copied hS ha hwa hv hvl hA hO x _ (by exact rfl) (by exact rfl) (by exact rfl) (by exact rfl)).mono ?_; rintro e w5 ⟨rfl, hO6, hif⟩)
                            all_goals
                              rw [if_pos HL.out] at hif
                              obtain ⟨ha6, hw6⟩ := hif
                              go_wp2
                              go_roundw
                              case rel => exact ⟨j + 1, by omega, by go_num, hO6, .inl ⟨_, ha6, hw6, by simp; omega, HFIN.out⟩⟩
                              case measure => simp [intOf]; omega
                          · have hfin : o = .error 3 := by rw [HJ2.out, HLS.out, if_neg hl65]; rfl
                            have HFIN := Lib.hid hfin
                            have HL := Lib.hid hl65
                            clear hfin hl65
                            go_region_with (go_at_call 33; refine (copied hS ha hwa hv hvl hA hO x _ (by exact rfl) (by exact rfl) (by exact rfl) (by exact rfl)).mono ?_; rintro e w5 ⟨rfl, hO6, hif⟩)
                            all_goals
                              rw [if_neg HL.out] at hif
                              go_wp2
                              go_roundw
                              case rel => exact ⟨j + 1, by omega, by go_num, hO6, .inr ⟨3, .inr rfl, hif, HFIN.out⟩⟩
                              case measure => simp [intOf]; omega
                        · obtain rfl : j = n := by omega
                          have hmes := ha.left (8 * T.length)
                          have HM6 := Lib.hid hmes
                          clear hmes
                          go_wp2
                          go_roundw
                          case rel => exact ⟨hO, .inl ⟨l2, I4, f, ha, hwo, by omega, by rw [HJ2.out, Nat.sub_self]; rfl⟩⟩
                          case measure => rw [HM.out, HM6.out]; omega
                      · obtain ⟨h4, f4⟩ := hh.e
                        have hke : ((e : Int) == 0) = false := by simp; omega
                        have HFIN := Lib.hid ho
                        have HE := Lib.hid he
                        have hmes := hh.left he (8 * T.length)
                        have HM6 := Lib.hid hmes
                        clear ho he hmes
                        by_cases hlt2 : j < n
                        · go_wp2
                          go_roundw
                          case rel => exact ⟨hO, .inr ⟨e, HE.out, hh, HFIN.out⟩⟩
                          case measure => rw [HM.out, HM6.out]; omega
                        · go_wp2
                          go_roundw
                          case rel => exact ⟨hO, .inr ⟨e, HE.out, hh, HFIN.out⟩⟩
                          case measure => rw [HM.out, HM6.out]; omega
    · obtain ⟨h4, f4⟩ := hh.e
      have hke : ((k : Int) == 0) = false := by simp; omega
      have HFIN := Lib.hid ho
      have HK := Lib.hid hk
      clear ho hk
      go_wp2
      go_end0
      exact blocked_err HFIN.out HK.out hO hh

end Go.Proofs.Ythceefhnmjjddaa
