/-
  The program's Inflate, by a contract.
-/
import Derived.Test.YthceefhnmjjddaaOwn
import Derived.Test.YthceefhnmjjddaaMono
namespace Go.Proofs.Ythceefhnmjjddaa
open Go.RowKit

theorem coded_halt (rb wb t1 t2 : Nat) (k : Int) (w : World) (h : Halt w rb k) (hk : k = 2 ∨ k = 3) :
    Calls Try.prog 21 #[.pointer (some ⟨wb, 0, none⟩), .pointer (some ⟨rb, 0, none⟩), .pointer (some ⟨t1, 0, none⟩), .pointer (some ⟨t2, 0, none⟩)] w fun e w' => e = .returned (.tuple #[]) ∧ w = w' := by
  have hkb : (k == 0) = false := by rcases hk with rfl | rfl <;> rfl
  obtain ⟨h4, f4⟩ := h.e
  go_enter Try.func21, Try.ntmps21
  go_wp2_with fail
  go_loopw [8] (fun _ wr => wr = w) (fun _ _ => 0)
  case atStart => exact rfl
  case round =>
    subst hrel
    go_wp2
    go_end0
    exact ⟨rfl, rfl⟩

/-- What Inflate gives. -/
def Inflated (o : Except Int (List UInt8 × Nat)) (w : World) (e : Ending) (w' : World) : Prop :=
  Below w.heap.size w w' ∧ match o with
  | .ok (l, I) => ∃ v, e = .returned (.tuple #[v, .int .i64 ((I + 7) / 8 : Nat), .int .i64 0]) ∧ w'.ownsRow w.heap.size 5 1 v l.length (bytesV l) ∧ l.length ≤ 65536
  | .error k => e = .returned (.tuple #[.slice none 0 0, .int .i64 0, .int .i64 k]) ∧ (k = 2 ∨ k = 3)

def InfRel (w : World) (A : Option Addr) (cap : Nat) (T : List UInt8) (o : Except Int (List UInt8 × Nat)) (last : Value) (wr : World) : Prop :=
  Below w.heap.size w wr ∧
    ((∃ l I v f, last = .bool false ∧ Alive wr w.heap.size A cap T I ∧ WAt wr (w.heap.size + 1) v l ∧ (∀ g, v.ownBlock = some g → w.heap.size ≤ g) ∧ l.length ≤ 65536 ∧ 8 * T.length - I < f ∧ o = blocksF T f I l) ∨
     (∃ l I v, last = .bool true ∧ Alive wr w.heap.size A cap T I ∧ WAt wr (w.heap.size + 1) v l ∧ (∀ g, v.ownBlock = some g → w.heap.size ≤ g) ∧ l.length ≤ 65536 ∧ o = .ok (l, I)) ∨
     (∃ k t, (k = 2 ∨ k = 3) ∧ last = .bool t ∧ Halt wr w.heap.size k ∧ o = .error k))

theorem inf_start {w : World} {A : Option Addr} {cap : Nat} {T : List UInt8} {o : Except Int (List UInt8 × Nat)} (h : BytesAt w A T) (hA : ∀ a, A = some a → a.block < w.heap.size) (ho : o = blocksF T (8 * T.length + 1) 0 []) :
    InfRel w A cap T o (.bool false) ((w.alloc (.cells #[.slice A T.length cap, .int .i64 0, .int .u64 0, .int .i64 0, .int .i64 0] 46)).alloc (.cells #[.slice none 0 0] 49)) := by
  refine ⟨((Below.refl _ w).alloc (Nat.le_refl _) _).alloc (by simp) _, .inl ⟨[], 0, .slice none 0 0, _, rfl, ?_, ?_, (by intro g hg; cases hg), by simp, by omega, ho⟩⟩
  · refine ⟨⟨0, 0, (Blk.new w 46 _).alloc _, by simp, by simp, by omega⟩, ?_, ?_, by omega⟩
    · exact h.below (((Below.refl _ w).alloc (Nat.le_refl _) _).alloc (by simp) _)
    · intro a ha; have := hA a ha; omega
  · exact ⟨Blk.new_ (w := w.alloc _) _ _ (by simp), World.ownsRow_nil _ _ _ _⟩
/-- The reader lives; the writer holds l. -/
structure AW (w : World) (A : Option Addr) (cap : Nat) (T : List UInt8) (I : Nat) (v : Value) (l : List UInt8) (wx : World) : Prop where
  b : Below w.heap.size w wx
  ha : Alive wx w.heap.size A cap T I
  hw : WAt wx (w.heap.size + 1) v l
  hv : ∀ g, v.ownBlock = some g → w.heap.size ≤ g
  hl : l.length ≤ 65536
def SW (w : World) (v : Value) : List Nat := w.heap.size :: (w.heap.size + 1) :: ownL v
theorem AW.apart {w wx : World} {A : Option Addr} {cap : Nat} {T : List UInt8} {I : Nat} {v : Value} {l : List UInt8} (h : AW w A cap T I v l wx) (hA : ∀ a, A = some a → a.block < w.heap.size) : Apart (SW w v) w.heap.size (w.heap.size + 1) A :=
  ⟨List.mem_cons_self .., List.mem_cons_of_mem _ (List.mem_cons_self ..), fun a ha hm => by
    have h1 := hA a ha
    rcases List.mem_cons.1 hm with h2 | hm
    · omega
    · rcases List.mem_cons.1 hm with h2 | hm
      · omega
      · have := h.hv _ (mem_ownL.1 hm); omega, by omega⟩
theorem SW_le {w : World} {v : Value} (hv : ∀ k, v.ownBlock = some k → w.heap.size ≤ k) : ∀ k ∈ SW w v, w.heap.size ≤ k := by
  intro k hm
  rcases List.mem_cons.1 hm with h2 | hm
  · omega
  · rcases List.mem_cons.1 hm with h2 | hm
    · omega
    · exact hv _ (mem_ownL.1 hm)
theorem AW.out {w wx : World} {A : Option Addr} {cap : Nat} {T : List UInt8} {I : Nat} {v : Value} {l : List UInt8} (h : AW w A cap T I v l wx) : WOut (SW w v) wx wx (w.heap.size + 1) l :=
  ⟨v, h.hw, fun _ hg => .inl (List.mem_cons_of_mem _ (List.mem_cons_of_mem _ (mem_ownL.2 hg))), h.hl⟩
theorem AW.below {w wx w' : World} {A : Option Addr} {cap : Nat} {T : List UInt8} {I : Nat} {v : Value} {l : List UInt8} (h : AW w A cap T I v l wx) (hB : Below wx.heap.size wx w') : AW w A cap T I v l w' :=
  ⟨h.b.trans (hB.mono h.b.size), h.ha.keepB hB, h.hw.only (S := []) (Only.of_below hB) (by simp) (by simp), h.hv, h.hl⟩
theorem AW.read {w wx w' : World} {A : Option Addr} {cap : Nat} {T : List UInt8} {I I' : Nat} {v : Value} {l : List UInt8} (h : AW w A cap T I v l wx) (hO : Only [w.heap.size] wx w') (ha : Alive w' w.heap.size A cap T I') : AW w A cap T I' v l w' := by
  obtain ⟨cs, hrb⟩ := h.ha.blk
  refine ⟨h.b.trans (hO.below h.b.size (by simp)), ha, h.hw.only hO (by simp) (fun g hg => ?_), h.hv, h.hl⟩
  have := hrb.own_ne h.hw.own (by decide)
  rw [hg] at this
  simp
  exact fun e => this (by rw [e])
theorem AW.belowO {w wx w' : World} {A : Option Addr} {cap : Nat} {T : List UInt8} {I : Nat} {v : Value} {l : List UInt8} (h : AW w A cap T I v l wx) (hO : Only (SW w v) wx w') : Below w.heap.size w w' := h.b.trans (hO.below h.b.size (SW_le h.hv))
theorem AW.after {w wx w' : World} {A : Option Addr} {cap : Nat} {T : List UInt8} {I I' : Nat} {v : Value} {l l' : List UInt8} (h : AW w A cap T I v l wx) (hO : Only (SW w v) wx w') (ha : Alive w' w.heap.size A cap T I') (hw : WOut (SW w v) wx w' (w.heap.size + 1) l') : ∃ v', AW w A cap T I' v' l' w' := by
  obtain ⟨v', h1, h2, h3⟩ := hw
  refine ⟨v', h.belowO hO, ha, h1, fun g hg => ?_, h3⟩
  rcases h2 g hg with h4 | h4
  · exact SW_le h.hv g h4
  · have := h.b.size; omega
theorem inf_err {w wx : World} {A : Option Addr} {cap : Nat} {T : List UInt8} {o : Except Int (List UInt8 × Nat)} {k : Int} {t : Bool} (hb : Below w.heap.size w wx) (hk : k = 2 ∨ k = 3) (hh : Halt wx w.heap.size k) (ho : o = .error k) : InfRel w A cap T o (.bool t) wx :=
  ⟨hb, .inr (.inr ⟨k, t, hk, rfl, hh, ho⟩)⟩
theorem inf_ok {w wx : World} {A : Option Addr} {cap : Nat} {T : List UInt8} {o : Except Int (List UInt8 × Nat)} {f c I0 I : Nat} {t : Bool} {v : Value} {l : List UInt8} (h : AW w A cap T I v l wx) (ht : ((c : Int) == 1) = t) (hf : 8 * T.length - I0 < f + 1) (hI0 : I0 < I) (ho : o = blocksT T f c (.ok (l, I))) : InfRel w A cap T o (.bool t) wx := by
  refine ⟨h.b, ?_⟩
  have hI := h.ha.hI
  cases t
  · have hc : ¬ c = 1 := by intro e; subst e; cases ht
    exact .inl ⟨l, I, v, f, rfl, h.ha, h.hw, h.hv, h.hl, by omega, ho.trans (if_neg hc)⟩
  · have h1 : (c : Int) = 1 := by simpa using ht
    have hc : c = 1 := by omega
    exact .inr (.inl ⟨l, I, v, rfl, h.ha, h.hw, h.hv, h.hl, ho.trans (if_pos hc)⟩)

/-- Two tables' blocks, laid and filled. -/
def twoRows (w : World) (cA cB : Array Value) : World := (((w.alloc (.cells Z17 55)).alloc (.cells Z17 55)).setRow w.heap.size cA).setRow (w.heap.size + 1) cB
theorem two_rows (w : World) (cA cB : Array Value) : Blk (twoRows w cA cB) w.heap.size 55 cA ∧ Blk (twoRows w cA cB) (w.heap.size + 1) 55 cB ∧ Below w.heap.size w (twoRows w cA cB) := by
  have h0 : Blk ((w.alloc (.cells Z17 55)).alloc (.cells Z17 55)) w.heap.size 55 Z17 := (Blk.new w 55 Z17).alloc _
  have h1 : Blk ((w.alloc (.cells Z17 55)).alloc (.cells Z17 55)) (w.heap.size + 1) 55 Z17 := Blk.new_ (w := w.alloc _) _ _ (by simp)
  exact ⟨(h0.row_ cA).rowFar (by omega) _, (h1.rowFar (by omega) cA).row_ cB, below_row (below_row (((Below.refl _ w).alloc (Nat.le_refl _) _).alloc (by simp) _) (Nat.le_refl _) _) (by omega) _⟩
theorem tab_out {S : List Nat} {w : World} {tb B n k : Nat} {A : Option Addr} {L : List Nat} (hown : w.ownsRow B 3 1 (.slice A n k) (sgs L 15).length (numsV (sgs L 15))) (hS : ∀ s ∈ S, s < B) (hb : Blk w tb 55 (tabCells (fun n => L.count n) (.slice A n k))) (htb : B ≤ tb) (hl : L.length ≤ 288) : TabOut S w tb L := by
  obtain ⟨A', c, hv, _, hn, hA⟩ := NumsAt.of_own hown
  rw [hv] at hb
  exact ⟨⟨A', c, ⟨hb, hn⟩, fun a ha => ⟨fun hm => by have := hS _ hm; have := (hA a ha).1; omega, (hA a ha).2⟩⟩, fun hm => by have := hS _ hm; omega, hl⟩
theorem AW.small {w wx : World} {A : Option Addr} {cap : Nat} {T : List UInt8} {I : Nat} {v : Value} {l : List UInt8} (h : AW w A cap T I v l wx) : ∀ s ∈ SW w v, s < wx.heap.size := by
  intro s hs
  rcases List.mem_cons.1 hs with h2 | hs
  · rw [h2]; obtain ⟨cs, hb⟩ := h.ha.blk; exact hb.lt
  · rcases List.mem_cons.1 hs with h2 | hs
    · rw [h2]; exact h.hw.cells.lt
    · exact (h.hw.own.lt s (mem_ownL.1 hs)).2

def fillRows (w : World) (g : Nat) (cA cB : Array Value) : World := (w.setRow g cA).setRow (g + 1) cB
theorem fill_rows {w : World} {g : Nat} {c0 c1 : Array Value} (h0 : Blk w g 55 c0) (h1 : Blk w (g + 1) 55 c1) (cA cB : Array Value) : Blk (fillRows w g cA cB) g 55 cA ∧ Blk (fillRows w g cA cB) (g + 1) 55 cB ∧ Only [g, g + 1] w (fillRows w g cA cB) :=
  ⟨(h0.row_ cA).rowFar (by omega) _, (h1.rowFar (by omega) cA).row_ cB, ((Only.refl _ w).row (.inl (by simp)) _).row (.inl (by simp)) _⟩
theorem AW.far {w wx w' : World} {A : Option Addr} {cap : Nat} {T : List UInt8} {I : Nat} {v : Value} {l : List UInt8} {S : List Nat} {B : Nat} (h : AW w A cap T I v l wx) (hO : Only S wx w') (hS : ∀ s ∈ S, B ≤ s) (hB : ∀ s ∈ SW w v, s < B) (hA : ∀ a, A = some a → a.block < w.heap.size) : AW w A cap T I v l w' := by
  have h0 := hB w.heap.size (List.mem_cons_self ..)
  have h1 := hB (w.heap.size + 1) (List.mem_cons_of_mem _ (List.mem_cons_self ..))
  have hn : ∀ k, k < B → k ∉ S := fun k hk hm => by have := hS k hm; omega
  exact ⟨h.b.trans (hO.below h.b.size (fun k hk => by have := hS k hk; omega)), h.ha.only hO (hn _ h0) (fun a ha => hn _ (by have := hA a ha; omega)), h.hw.only hO (hn _ h1) (fun g hg => hn _ (hB g (List.mem_cons_of_mem _ (List.mem_cons_of_mem _ (mem_ownL.2 hg))))), h.hv, h.hl⟩
theorem Halt.only {S : List Nat} {w w' : World} {b : Nat} {k : Int} (h : Halt w b k) (hO : Only S w w') (hb : b ∉ S) : Halt w' b k := by
  obtain ⟨_, _, _, _, hc⟩ := h
  exact ⟨_, _, _, _, hO.blk hc hb⟩
theorem own_only {S : List Nat} {w w' : World} {base : Nat} {e : TypeId} {size : Nat} {v : Value} {n : Nat} {xs : List Value} (h : w.ownsRow base e size v n xs) (hO : Only S w w') (hS : ∀ s ∈ S, s < base) : w'.ownsRow base e size v n xs :=
  own_block h fun k hk => hO.block k (h.lt k hk).2 (fun hm => by have := hS k hm; have := (h.lt k hk).1; omega)

theorem own_from {w : World} {base : Nat} {e : TypeId} {size : Nat} {v : Value} {n : Nat} {xs : List Value} (h : w.ownsRow 0 e size v n xs) (hv : ∀ g, v.ownBlock = some g → base ≤ g) : w.ownsRow base e size v n xs := by
  refine ⟨h.1, ?_⟩
  rcases h.2 with h2 | ⟨g, cap, cur, rfl, h3, h4, h5⟩
  · exact .inl h2
  · exact .inr ⟨g, cap, cur, rfl, hv g rfl, h4, h5⟩
theorem inflated_ok {w wx : World} {o : Except Int (List UInt8 × Nat)} {l : List UInt8} {I n : Nat} {v : Value} (hb : Below w.heap.size w wx) (hw : WAt wx (w.heap.size + 1) v l) (hv : ∀ g, v.ownBlock = some g → w.heap.size ≤ g) (hl : l.length ≤ 65536) (ho : o = .ok (l, I)) :
    Inflated o w (.returned (.tuple #[v, .int .i64 ((I + 7) / 8 : Nat), .int .i64 0])) (wx.drewN n) := by
  subst ho
  exact ⟨⟨hb.os, hb.tape, hb.output, hb.size, hb.block⟩, v, rfl, own_drewN (own_from hw.own hv) n, hl⟩
theorem inflated_err {w wx : World} {o : Except Int (List UInt8 × Nat)} {k : Int} {n : Nat} (hb : Below w.heap.size w wx) (hk : k = 2 ∨ k = 3) (ho : o = .error k) :
    Inflated o w (.returned (.tuple #[.slice none 0 0, .int .i64 0, .int .i64 k])) (wx.drewN n) := by
  subst ho
  exact ⟨⟨hb.os, hb.tape, hb.output, hb.size, hb.block⟩, rfl, hk⟩

set_option maxHeartbeats 4000000 in
set_option maxRecDepth 100000 in
theorem inflate_any (A : Option Addr) (cap : Nat) (T : List UInt8) (w : World) (h : BytesAt w A T) (hA : ∀ a, A = some a → a.block < w.heap.size) (hT : T.length ≤ 1048576) :
    Calls Try.prog 9 #[.slice A T.length cap] w (Inflated (inflateS T) w) := by
  have ho : inflateS T = blocksF T (8 * T.length + 1) 0 [] := rfl
  generalize inflateS T = o at *
  have HO := Lib.hid ho
  clear ho
  go_enter Try.func9, Try.ntmps9
  go_wp2_with fail
  go_loopw [7] (fun last wr => InfRel w A cap T o last wr) (fun _ wr => leftW w.heap.size (8 * T.length) wr)
  case atStart => exact inf_start h hA HO.out
  case round =>
    obtain ⟨hbel, hcase⟩ := hrel
    rcases hcase with ⟨l, I, v, f, rfl, ha, hw, hv, hl, hf, ho⟩ | ⟨l, I, v, rfl, ha, hw, hv, hl, ho⟩ | ⟨k, t, hk, rfl, hh, ho⟩
    · obtain ⟨f, rfl⟩ : ∃ f', f = f' + 1 := ⟨f - 1, by omega⟩
      rw [blocksF_step] at ho
      have HJ := Lib.hid ho
      have hmes := ha.left (8 * T.length)
      have HM := Lib.hid hmes
      have hI0 := ha.hI
      have haw : AW w A cap T I v l wr := ⟨hbel, ha, hw, hv, hl⟩
      obtain ⟨h4, f4⟩ := ha.e0
      clear ho hmes hbel hw hv
      go_wp2_with fail
      refine (bit_any w.heap.size A cap T (some I) _ (by exact ha) hT).mono ?_
      rintro e w1 ⟨rfl, hr1, hO1⟩
      have hl1 := bitS_lt T (some I)
      have hs1 := @bitS_mono T I
      generalize bitS T (some I) = r1 at *
      obtain ⟨c, s1⟩ := r1
      simp only at hr1 hl1 hs1 HJ
      obtain ⟨t, ht⟩ : ∃ t : Bool, ((c : Int) == 1) = t := ⟨_, rfl⟩
      go_wp2_with fail
      refine (number_any w.heap.size A cap T s1 2 _ _ hr1 hT rfl (by omega)).mono ?_
      rintro e w2 ⟨rfl, hr2, hO2⟩
      have HT := Lib.hid ht
      have hO12 : Only [w.heap.size] wr w2 := hO1.trans hO2
      have hl2 := numS_lt T s1 2
      have hs2 : ∀ J, (numS T s1 2).2 = some J → I + 1 ≤ J ∧ J ≤ 8 * T.length := fun J hJ => numS_mono hJ (fun K hK => by have := hs1 (by rw [hK]); omega)
      have HS2 := Lib.hid hs2
      generalize numS T s1 2 = r2 at *
      obtain ⟨kd, s2⟩ := r2
      replace hl2 : kd < 4 := hl2
      simp only at hr2 HJ
      clear hs2 hs1 hr1 hO1 hO2 ht h4 f4
      rcases s2 with _ | I2
      · have hh := Dead.halt hr2
        obtain ⟨h4, f4⟩ := hh.e
        have hmes := hh.left (.inl rfl) (8 * T.length)
        have HM6 := Lib.hid hmes
        have HFIN : Hid (o = .error 2) := HJ.out
        have hB2 := haw.b.trans (hO12.below haw.b.size (by simp))
        clear hmes HJ
        go_wp2
        go_roundw
        case rel => exact inf_err hB2 (.inl rfl) hh HFIN.out
        case measure => rw [HM.out, HM6.out]; omega
      · have hb2 := HS2.out I2 rfl
        have haw2 : AW w A cap T I2 v l w2 := haw.read hO12 hr2
        have HN : Hid (o = blocksT T f c (blockS T kd I2 l)) := HJ.out
        obtain ⟨h4, f4⟩ := haw2.ha.e0
        clear HJ HS2 haw hr2 hO12 ha
        by_cases hk0 : kd = 0
        · subst hk0
          go_wp2_with fail
          refine (stored_any (SW w v) w.heap.size (w.heap.size + 1) A cap T I2 l _ (haw2.apart hA) haw2.ha haw2.out (fun a ha => by have := hA a ha; have := haw2.b.size; omega) hT).mono ?_
          rintro e w3 ⟨rfl, hO3, houts⟩
          rw [← blockS_0] at houts
          have hmono : ∀ I' l', blockS T 0 I2 l = .ok (l', I') → I2 ≤ I' ∧ I' ≤ 8 * T.length := fun I' l' h => blockS_mono hb2.2 h
          generalize blockS T 0 I2 l = ob at *
          rcases ob with k | ⟨l', I'⟩
          · obtain ⟨hh, hk⟩ := houts
            have HFIN : Hid (o = .error k) := HN.out
            have hB3 := haw2.belowO hO3
            have hmes := hh.left hk (8 * T.length)
            have HM6 := Lib.hid hmes
            clear hmes hmono
            go_wp2
            go_roundw
            case rel => exact inf_err hB3 hk hh HFIN.out
            case measure => rw [HM.out, HM6.out]; omega
          · obtain ⟨v', haw3⟩ := haw2.after hO3 houts.1 houts.2
            have hI' := hmono _ _ rfl
            have hmes := haw3.ha.left (8 * T.length)
            have HM6 := Lib.hid hmes
            clear hmes hmono
            go_wp2
            go_roundw
            case rel => exact inf_ok haw3 HT.out hf (by omega) HN.out
            case measure => rw [HM.out, HM6.out]; omega
        · by_cases hk3 : kd = 3
          · subst hk3
            have hmes := (haw2.ha.halt 2).left (.inl rfl) (8 * T.length)
            have HM6 := Lib.hid hmes
            have HFIN : Hid (o = .error 2) := HN.out.trans (congrArg _ (blockS_3 _ _ _))
            have hB2 := (haw2.b).setCell (p := ⟨w.heap.size, 4, none⟩) (Nat.le_refl _) (.int .i64 2)
            clear hmes
            go_wp2_with fail
            go_roundw
            case rel => exact inf_err hB2 (.inl rfl) (haw2.ha.halt 2) HFIN.out
            case measure => rw [HM.out, HM6.out]; omega
          · by_cases hk1 : kd = 1
            · subst hk1
              go_wp2_with fail
              refine (fixed_any _).mono ?_
              rintro e w3 ⟨⟨c1, c2, v1, v2, rfl, ⟨A1, n1, k1, rfl⟩, ⟨A2, n2, k2, rfl⟩, rfl, rfl, ho1, ho2⟩, hb3⟩
              have haw3 := haw2.below hb3
              have hsm := haw2.small
              have HSM := Lib.hid hsm
              have hz3 := hb3.size
              have hall := two_rows w3 (tabCells (fun n => fixL.count n) (.slice A1 n1 k1)) (tabCells (fun n => fixD.count n) (.slice A2 n2 k2))
              have hfar3 : ∀ cs, Blk (((w3.alloc (.cells Z17 55)).alloc (.cells Z17 55)).setRow w3.heap.size cs) (w3.heap.size + 1) 55 Z17 := fun cs => (Blk.new_ (w := w3.alloc (.cells Z17 55)) 55 Z17 (by simp)).rowFar (by omega) cs
              have HFAR := Lib.hid hfar3
              generalize hw5 : twoRows w3 (tabCells (fun n => fixL.count n) (.slice A1 n1 k1)) (tabCells (fun n => fixD.count n) (.slice A2 n2 k2)) = w5 at hall
              have HW5 := Lib.hid hw5
              obtain ⟨hbA, hbB, hb5⟩ := hall
              have haw5 := haw3.below hb5
              have ho15 := own_below ho1 hb5
              have ho25 := own_below ho2 hb5
              clear hfar3 hsm haw2 hb3 h4 f4 hw5 haw3 hb5 ho1 ho2
              obtain ⟨h4, f4⟩ := haw5.ha.e0
              go_wp2_with (first | (refine wpList_store_row rfl 55 (.tmp 9) (.tmp 32) rfl w3.heap.size (tabCells (fun n => fixL.count n) (.slice A1 n1 k1)) rfl rfl 55 Z17 ((Blk.new w3 55 Z17).alloc _) ti55 rfl (tab_one _ rfl) ?_) | (refine wpList_store_row rfl 55 (.tmp 10) (.tmp 33) rfl (w3.heap.size + 1) (tabCells (fun n => fixD.count n) (.slice A2 n2 k2)) rfl rfl 55 Z17 (HFAR.out _) ti55 rfl (tab_one _ rfl) ?_; change wpList _ _ _ _ _ (twoRows w3 (tabCells (fun n => fixL.count n) (.slice A1 n1 k1)) (tabCells (fun n => fixD.count n) (.slice A2 n2 k2))); rw [HW5.out]))
              refine (coded_any (SW w v) w.heap.size (w.heap.size + 1) w3.heap.size (w3.heap.size + 1) fixL fixD A cap T I2 l _ (haw5.apart hA) haw5.ha haw5.out (fun a ha => by have := hA a ha; have := haw5.b.size; omega) hT (tab_out ho15 HSM.out hbA (by omega) (by rw [fixL_length]; omega)) (tab_out ho25 HSM.out hbB (by omega) (by rw [fixD_length]; omega))).mono ?_
              rintro e w9 ⟨rfl, hO9, houts⟩
              rw [← blockS_1] at houts
              have hmono : ∀ I' l', blockS T 1 I2 l = .ok (l', I') → I2 ≤ I' ∧ I' ≤ 8 * T.length := fun I' l' h => blockS_mono hb2.2 h
              generalize blockS T 1 I2 l = ob at *
              rcases ob with k | ⟨l', I'⟩
              · obtain ⟨hh, hk⟩ := houts
                have HFIN : Hid (o = .error k) := HN.out
                have hB9 := haw5.belowO hO9
                have hmes := hh.left hk (8 * T.length)
                have HM6 := Lib.hid hmes
                clear hmes hmono
                go_wp2
                go_roundw
                case rel => exact inf_err hB9 hk hh HFIN.out
                case measure => rw [HM.out, HM6.out]; omega
              · obtain ⟨v', haw9⟩ := haw5.after hO9 houts.1 houts.2
                have hI' := hmono _ _ rfl
                have hmes := haw9.ha.left (8 * T.length)
                have HM6 := Lib.hid hmes
                clear hmes hmono
                go_wp2
                go_roundw
                case rel => exact inf_ok haw9 HT.out hf (by omega) HN.out
                case measure => rw [HM.out, HM6.out]; omega
            · obtain rfl : kd = 2 := by omega
              go_wp2_with fail
              refine (fixed_any _).mono ?_
              rintro e w3 ⟨⟨c1, c2, v1, v2, rfl, ⟨A1, n1, k1, rfl⟩, ⟨A2, n2, k2, rfl⟩, rfl, rfl, ho1, ho2⟩, hb3⟩
              have haw3 := haw2.below hb3
              have hsm := haw2.small
              have HSM := Lib.hid hsm
              have hz3 := hb3.size
              have hall := two_rows w3 (tabCells (fun n => fixL.count n) (.slice A1 n1 k1)) (tabCells (fun n => fixD.count n) (.slice A2 n2 k2))
              have hfar3 : ∀ cs, Blk (((w3.alloc (.cells Z17 55)).alloc (.cells Z17 55)).setRow w3.heap.size cs) (w3.heap.size + 1) 55 Z17 := fun cs => (Blk.new_ (w := w3.alloc (.cells Z17 55)) 55 Z17 (by simp)).rowFar (by omega) cs
              have HFAR := Lib.hid hfar3
              generalize hw5 : twoRows w3 (tabCells (fun n => fixL.count n) (.slice A1 n1 k1)) (tabCells (fun n => fixD.count n) (.slice A2 n2 k2)) = w5 at hall
              have HW5 := Lib.hid hw5
              obtain ⟨hbA, hbB, hb5⟩ := hall
              have haw5 := haw3.below hb5
              have ho15 := own_below ho1 hb5
              have ho25 := own_below ho2 hb5
              clear hfar3 hsm haw2 hb3 h4 f4 hw5 haw3 hb5 ho1 ho2
              obtain ⟨h4, f4⟩ := haw5.ha.e0
              go_wp2_with (first | (refine wpList_store_row rfl 55 (.tmp 9) (.tmp 32) rfl w3.heap.size (tabCells (fun n => fixL.count n) (.slice A1 n1 k1)) rfl rfl 55 Z17 ((Blk.new w3 55 Z17).alloc _) ti55 rfl (tab_one _ rfl) ?_) | (refine wpList_store_row rfl 55 (.tmp 10) (.tmp 33) rfl (w3.heap.size + 1) (tabCells (fun n => fixD.count n) (.slice A2 n2 k2)) rfl rfl 55 Z17 (HFAR.out _) ti55 rfl (tab_one _ rfl) ?_; change wpList _ _ _ _ _ (twoRows w3 (tabCells (fun n => fixL.count n) (.slice A1 n1 k1)) (tabCells (fun n => fixD.count n) (.slice A2 n2 k2))); rw [HW5.out]))
              refine (own_any w.heap.size A cap T I2 _ haw5.ha hT (fun a ha => by have := hA a ha; have := haw5.b.size; omega)).mono ?_
              rintro e w6 ⟨hO6, hown⟩
              have hsm5 := haw5.small
              have hbA6 := hO6.blk hbA (by have := HSM.out w.heap.size (List.mem_cons_self ..); simp; omega)
              have hbB6 := hO6.blk hbB (by have := HSM.out w.heap.size (List.mem_cons_self ..); simp; omega)
              have HN2 : Hid (o = blocksT T f c (blockT T l (ownS T I2))) := HN.out.trans (congrArg _ (blockS_2 _ _ _))
              have hmono : ∀ I' l', blockT T l (ownS T I2) = .ok (l', I') → I2 ≤ I' ∧ I' ≤ 8 * T.length := fun I' l' h => blockS_mono hb2.2 ((blockS_2 _ _ _).trans h)
              generalize ownS T I2 = oo at *
              rcases oo with _ | ⟨L1, L2, I3⟩
              · obtain ⟨⟨d1, d2, u1, u2, rfl, ⟨B1, m1, j1, rfl⟩, ⟨B2, m2, j2, rfl⟩, -⟩, hh⟩ := hown
                have hall := fill_rows hbA6 hbB6 (tabCells d1 (.slice B1 m1 j1)) (tabCells d2 (.slice B2 m2 j2))
                have hfar6 := hbB6.rowFar (k := w3.heap.size) (by omega) (tabCells d1 (.slice B1 m1 j1))
                generalize hw7 : fillRows w6 w3.heap.size (tabCells d1 (.slice B1 m1 j1)) (tabCells d2 (.slice B2 m2 j2)) = w7 at hall
                have HW7 := Lib.hid hw7
                clear hw7
                obtain ⟨hbA7, hbB7, hO7⟩ := hall
                have hz6 := hO6.size
                have hrb := HSM.out w.heap.size (List.mem_cons_self ..)
                have hh7 := hh.only hO7 (by simp; omega)
                have hB7 : Below w.heap.size w w7 := (haw5.b.trans (hO6.below haw5.b.size (by simp))).trans (hO7.below (by have := haw5.b.size; omega) (by simp; omega))
                have HFIN : Hid (o = .error 2) := HN2.out
                have hmes := hh7.left (.inl rfl) (8 * T.length)
                have HM6 := Lib.hid hmes
                clear hmes hmono HN2 HN h4 f4 haw5
                obtain ⟨h4, f4⟩ := hh7.e
                go_wp2_with (first | (refine wpList_store_row rfl 55 (.tmp 9) (.tmp 39) rfl w3.heap.size (tabCells d1 (.slice B1 m1 j1)) rfl rfl 55 _ hbA6 ti55 rfl (tab_one _ rfl) ?_) | (refine wpList_store_row rfl 55 (.tmp 10) (.tmp 40) rfl (w3.heap.size + 1) (tabCells d2 (.slice B2 m2 j2)) rfl rfl 55 _ hfar6 ti55 rfl (tab_one _ rfl) ?_; change wpList _ _ _ _ _ (fillRows w6 w3.heap.size (tabCells d1 (.slice B1 m1 j1)) (tabCells d2 (.slice B2 m2 j2))); rw [HW7.out]))
                refine (coded_halt _ _ _ _ 2 _ hh7 (.inl rfl)).mono ?_
                rintro e w8 ⟨rfl, rfl⟩
                go_wp2
                go_roundw
                case rel => exact inf_err hB7 (.inl rfl) hh7 HFIN.out
                case measure => rw [HM.out, HM6.out]; omega
              · obtain ⟨⟨d1, d2, u1, u2, rfl, ⟨B1, m1, j1, rfl⟩, ⟨B2, m2, j2, rfl⟩, rfl, rfl, hoA, hoB⟩, ha6, hl1', hl2'⟩ := hown
                have hall := fill_rows hbA6 hbB6 (tabCells (fun n => L1.count n) (.slice B1 m1 j1)) (tabCells (fun n => L2.count n) (.slice B2 m2 j2))
                have hfar6 := hbB6.rowFar (k := w3.heap.size) (by omega) (tabCells (fun n => L1.count n) (.slice B1 m1 j1))
                generalize hw7 : fillRows w6 w3.heap.size (tabCells (fun n => L1.count n) (.slice B1 m1 j1)) (tabCells (fun n => L2.count n) (.slice B2 m2 j2)) = w7 at hall
                have HW7 := Lib.hid hw7
                clear hw7
                obtain ⟨hbA7, hbB7, hO7⟩ := hall
                have hz6 := hO6.size
                have hrb := HSM.out w.heap.size (List.mem_cons_self ..)
                have haw6 := haw5.read hO6 ha6
                have haw7 := haw6.far hO7 (B := w3.heap.size) (by simp) (fun s hs => by have := HSM.out s hs; omega) hA
                have hoA7 := own_only hoA hO7 (by have := hbB.lt; simp; omega)
                have hoB7 := own_only hoB hO7 (by have := hbB.lt; simp; omega)
                have HN3 : Hid (o = blocksT T f c (codedS T L1 L2 I3 l)) := HN2.out
                have hmono2 : ∀ I' l', codedS T L1 L2 I3 l = .ok (l', I') → I2 ≤ I' ∧ I' ≤ 8 * T.length := hmono
                clear hmono HN2 HN h4 f4 haw5 hoA hoB haw6 ha6
                obtain ⟨h4, f4⟩ := haw7.ha.e0
                go_wp2_with (first | (refine wpList_store_row rfl 55 (.tmp 9) (.tmp 39) rfl w3.heap.size (tabCells (fun n => L1.count n) (.slice B1 m1 j1)) rfl rfl 55 _ hbA6 ti55 rfl (tab_one _ rfl) ?_) | (refine wpList_store_row rfl 55 (.tmp 10) (.tmp 40) rfl (w3.heap.size + 1) (tabCells (fun n => L2.count n) (.slice B2 m2 j2)) rfl rfl 55 _ hfar6 ti55 rfl (tab_one _ rfl) ?_; change wpList _ _ _ _ _ (fillRows w6 w3.heap.size (tabCells (fun n => L1.count n) (.slice B1 m1 j1)) (tabCells (fun n => L2.count n) (.slice B2 m2 j2))); rw [HW7.out]))
                refine (coded_any (SW w v) w.heap.size (w.heap.size + 1) w3.heap.size (w3.heap.size + 1) L1 L2 A cap T I3 l _ (haw7.apart hA) haw7.ha haw7.out (fun a ha => by have := hA a ha; have := haw7.b.size; omega) hT (tab_out (own_base hoA7 (base' := w3.heap.size) (by have := hbB.lt; omega)) (fun s hs => by have := HSM.out s hs; omega) hbA7 (by omega) hl1') (tab_out (own_base hoB7 (base' := w3.heap.size) (by have := hbB.lt; omega)) (fun s hs => by have := HSM.out s hs; omega) hbB7 (by omega) hl2')).mono ?_
                rintro e w9 ⟨rfl, hO9, houts⟩
                have hmono := hmono2
                clear hmono2
                generalize codedS T L1 L2 I3 l = ob at *
                rcases ob with k | ⟨l', I'⟩
                · obtain ⟨hh, hk⟩ := houts
                  have HFIN : Hid (o = .error k) := HN3.out
                  have hB9 := haw7.belowO hO9
                  have hmes := hh.left hk (8 * T.length)
                  have HM6 := Lib.hid hmes
                  clear hmes hmono
                  go_wp2
                  go_roundw
                  case rel => exact inf_err hB9 hk hh HFIN.out
                  case measure => rw [HM.out, HM6.out]; omega
                · obtain ⟨v', haw9⟩ := haw7.after hO9 houts.1 houts.2
                  have hI' := hmono _ _ rfl
                  have hmes := haw9.ha.left (8 * T.length)
                  have HM6 := Lib.hid hmes
                  clear hmes hmono
                  go_wp2
                  go_roundw
                  case rel => exact inf_ok haw9 HT.out hf (by omega) HN3.out
                  case measure => rw [HM.out, HM6.out]; omega
    · have hwc := hw.cells
      obtain ⟨⟨rest, n, hrb, -⟩, -⟩ := ha
      obtain ⟨hr1, hr4, hf1, hf4⟩ : _ ∧ _ ∧ _ ∧ _ := ⟨hrb.cell 1, hrb.cell 4, hrb.frozen 1, hrb.frozen 4⟩
      have hwc0 := hwc.cell 0
      have HO2 := Lib.hid ho
      clear ho hrb hwc
      go_wp2_with fail
      go_quiet (fail)
      go_wp2
      go_ret3
      exact inflated_ok hbel hw hv hl HO2.out
    · obtain ⟨h4, f4⟩ := hh.e
      have hkb : (k == 0) = false := by rcases hk with rfl | rfl <;> rfl
      have HFIN := Lib.hid ho
      have hkn : (k != 0) = true := by rcases hk with rfl | rfl <;> rfl
      clear ho
      cases t
      all_goals
        go_wp2_with fail
        go_quiet (fail)
        go_wp2
        go_ret3
        exact inflated_err hbel hk HFIN.out

end Go.Proofs.Ythceefhnmjjddaa
