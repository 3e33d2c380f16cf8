/-
  The reader's own: parts.
-/
import Derived.Test.YthceefhnmjjddaaOwnHead
import Derived.Test.YthceefhnmjjddaaRet
import Derived.Test.YthceefhnmjjddaaLens
import Derived.Test.YthceefhnmjjddaaCoded
namespace Go.Proofs.Ythceefhnmjjddaa
open Go.RowKit

theorem RAt.keep {w w' : World} {b : Nat} {A : Option Addr} {cap : Nat} {T : List UInt8} {s : Option Nat} (h : RAt w b A cap T s) (hO : Only [] w w') : RAt w' b A cap T s := by
  cases s with
  | some I => exact Alive.only h hO (by simp) (by simp)
  | none => obtain ⟨x, y, hb⟩ := h; exact ⟨x, y, hO.blk hb (by simp)⟩
theorem RAt.grown {w w' : World} {b : Nat} {A : Option Addr} {cap : Nat} {T : List UInt8} {s : Option Nat} (h : RAt w b A cap T s) (hg : w.grownBy w' none) : RAt w' b A cap T s := h.keep ((Only.refl [] w).grown hg (by simp))
theorem RAt.below {w w' : World} {b : Nat} {A : Option Addr} {cap : Nat} {T : List UInt8} {s : Option Nat} (h : RAt w b A cap T s) (hb : Below w.heap.size w w') : RAt w' b A cap T s := h.keep (Only.of_below hb)
abbrev Z19 : Array Value := #[.int .i64 0, .int .i64 0, .int .i64 0, .int .i64 0, .int .i64 0, .int .i64 0, .int .i64 0, .int .i64 0, .int .i64 0, .int .i64 0, .int .i64 0, .int .i64 0, .int .i64 0, .int .i64 0, .int .i64 0, .int .i64 0, .int .i64 0, .int .i64 0, .int .i64 0]
theorem slice19 (W : World) (g v : Nat) (hv : v < 16) : (Instr.sliceAt 78 (.pointer (some ⟨g, 0, none⟩)) none (some (.int .i64 ((v : Int) + 4))) none).run Try.prog W = .ok (.slice (some ⟨g, 0, none⟩) (v + 4) 19) W := by
  have h0 : (0 : Int) ≤ (v : Int) + 4 := by omega
  have h1 : (v : Int) + 4 ≤ 19 := by omega
  have h2 : ((v : Int) + 4).toNat = v + 4 := by omega
  have h3 : (⟨g, 0, none⟩ : Addr).add 0 = ⟨g, 0, none⟩ := rfl
  have hs : ∀ w, (sizeOf 3).run Try.prog w = .ok 1 w := fun _ => by kernel_rfl
  have h4 := run_sliceBound (P := Try.prog) W .i64 ((v : Int) + 4) 19 .sliceAlen h0 h1
  simp [Instr.sliceAt, Instr.sureAddr, run_underlying Try.underlying78, Instr.sliceBounds, h4, h2, h3, hs]
theorem own_order {w w5 : World} {b : Nat} {A : Option Addr} {cap : Nat} {T : List UInt8} {s : Option Nat} {g g0 g1 : Nat} {t t0 t1 : TypeId} {cs cs0 cs1 : Array Value} (hO : Only [b] w w5) (hrow : w5.heap[g]? = some (.cells cs t (0, 0))) (h0 : Blk w5 g0 t0 cs0) (h1 : Blk w5 g1 t1 cs1) (hr : RAt w5 b A cap T s) (hg : g < w5.heap.size) :
    Only [b] w (World.setRow (w5.alloc (.cells Z19 78)) w5.heap.size orderA) ∧ Blk (World.setRow (w5.alloc (.cells Z19 78)) w5.heap.size orderA) w5.heap.size 78 orderA ∧
    (World.setRow (w5.alloc (.cells Z19 78)) w5.heap.size orderA).heap[g]? = some (.cells cs t (0, 0)) ∧ Blk (World.setRow (w5.alloc (.cells Z19 78)) w5.heap.size orderA) g0 t0 cs0 ∧ Blk (World.setRow (w5.alloc (.cells Z19 78)) w5.heap.size orderA) g1 t1 cs1 ∧
    RAt (World.setRow (w5.alloc (.cells Z19 78)) w5.heap.size orderA) b A cap T s :=
  ⟨(hO.alloc _).row (.inr hO.size) _, (Blk.new w5 78 Z19).row_ _, (setRow_other _ _ _ _ (by omega)).trans ((Below.heap_alloc w5 _ _ hg).trans hrow), (h0.alloc _).rowFar (by have := h0.lt; omega) _, (h1.alloc _).rowFar (by have := h1.lt; omega) _,
    hr.keep (((Only.refl [] w5).alloc _).row (.inr (Nat.le_refl _)) _)⟩
theorem RAt.far {w : World} {b : Nat} {A : Option Addr} {cap : Nat} {T : List UInt8} {s : Option Nat} (h : RAt w b A cap T s) {g : Nat} (hb : b ≠ g) (hA : ∀ a, A = some a → a.block ≠ g) (i : Nat) (v : Value) : RAt (w.setCell ⟨g, i, none⟩ v) b A cap T s := by
  have hO : Only [g] w (w.setCell ⟨g, i, none⟩ v) := (Only.refl _ w).set (.inl (List.mem_singleton.2 rfl)) _ _
  cases s with
  | some I => exact Alive.only h hO (by simpa using hb) (fun a ha => by simpa using hA a ha)
  | none => obtain ⟨x, y, hb'⟩ := h; exact ⟨x, y, hO.blk hb' (by simpa using hb)⟩
abbrev Z17 : Array Value := #[.int .i64 0, .int .i64 0, .int .i64 0, .int .i64 0, .int .i64 0, .int .i64 0, .int .i64 0, .int .i64 0, .int .i64 0, .int .i64 0, .int .i64 0, .int .i64 0, .int .i64 0, .int .i64 0, .int .i64 0, .int .i64 0, .slice none 0 0]
theorem own_tab {w w5 : World} {b : Nat} {A : Option Addr} {cap : Nat} {T : List UInt8} {s : Option Nat} {g0 g1 : Nat} {t0 t1 : TypeId} {cs0 cs1 : Array Value} {c : Nat → Nat} {v : Value} (hO : Only [b] w w5) (h0 : Blk w5 g0 t0 cs0) (h1 : Blk w5 g1 t1 cs1) (hr : RAt w5 b A cap T s) :
    Only [b] w (World.setRow (w5.alloc (.cells Z17 55)) w5.heap.size (tabCells c v)) ∧ Blk (World.setRow (w5.alloc (.cells Z17 55)) w5.heap.size (tabCells c v)) w5.heap.size 55 (tabCells c v) ∧
    Blk (World.setRow (w5.alloc (.cells Z17 55)) w5.heap.size (tabCells c v)) g0 t0 cs0 ∧ Blk (World.setRow (w5.alloc (.cells Z17 55)) w5.heap.size (tabCells c v)) g1 t1 cs1 ∧
    RAt (World.setRow (w5.alloc (.cells Z17 55)) w5.heap.size (tabCells c v)) b A cap T s ∧ Below w5.heap.size w5 (World.setRow (w5.alloc (.cells Z17 55)) w5.heap.size (tabCells c v)) :=
  ⟨(hO.alloc _).row (.inr hO.size) _, (Blk.new w5 55 Z17).row_ _, (h0.alloc _).rowFar (by have := h0.lt; omega) _, (h1.alloc _).rowFar (by have := h1.lt; omega) _,
    hr.keep (((Only.refl [] w5).alloc _).row (.inr (Nat.le_refl _)) _), below_row ((Below.refl _ w5).alloc (Nat.le_refl _) _) (Nat.le_refl _) _⟩
theorem ownK_bad {T : List UInt8} {ns nd : Nat} {codes : List Nat} {st : Option Nat} (h : right codes = false) : ownK T ns nd (codes, st) = none := by
  cases st with
  | none => rfl
  | some I => show tailS T ns nd codes I = none; unfold tailS; rw [h]; rfl
theorem RAt.e {w : World} {b : Nat} {A : Option Addr} {cap : Nat} {T : List UInt8} {s : Option Nat} (h : RAt w b A cap T s) : ∃ e : Int, w.cell? ⟨b, 4, none⟩ = some (.int .i64 e) ∧ w.frozen? ⟨b, 4, none⟩ = false ∧ Halt (w.setCell ⟨b, 4, none⟩ (.int .i64 2)) b 2 := by
  cases s with
  | some I => exact ⟨0, (Alive.e0 h).1, (Alive.e0 h).2, Alive.halt h 2⟩
  | none => exact ⟨2, (Dead.e2 h).1, (Dead.e2 h).2, (Dead.halt h).set 2⟩
theorem owned_none {o : Option (List Nat × List Nat × Nat)} {b : Nat} {A : Option Addr} {cap : Nat} {T : List UInt8} {w w' : World} {c1 c2 : Nat → Nat} {A1 A2 : Option Addr} {n1 k1 n2 k2 : Nat} (ho : o = none) (hO : Only [b] w (w'.drewN 1)) (hh : Halt w' b 2) :
    Owned o b A cap T w (.returned (.tuple #[.agg (tabCells c1 (.slice A1 n1 k1)), .agg (tabCells c2 (.slice A2 n2 k2))])) (w'.drewN 1) := by
  subst ho
  exact ⟨hO, ⟨_, _, _, _, rfl, ⟨_, _, _, rfl⟩, ⟨_, _, _, rfl⟩, trivial⟩, hh⟩
theorem own_num {w : World} {base : Nat} {A : Option Addr} {c : Nat} {l : List Nat} (h : w.ownsRow base 3 1 (.slice A l.length c) l.length (numsV l)) (i : Nat) (hi : i < l.length) : ∃ g, A = some ⟨g, 0, none⟩ ∧ w.cell? ⟨g, i, none⟩ = some (.int .i64 (l.getD i 0 : Nat)) := by
  obtain ⟨A', c', hv, _, hn, _⟩ := NumsAt.of_own h
  injection hv with h1 h2 h3
  subst h1
  rcases h.2 with ⟨hv2, hn2⟩ | ⟨g, cap, cur, hv2, hb, hg, _⟩
  · omega
  · injection hv2 with h4 h5 h6
    subst h4
    refine ⟨g, rfl, ?_⟩
    rcases hn with rfl | ⟨b, o, e, _, hc⟩
    · simp at hi
    · injection e with e
      injection e with e1 e2
      subst e1 e2
      have := hc i hi
      rwa [Nat.zero_add] at this
theorem own_cap {w : World} {base : Nat} {A : Option Addr} {n c : Nat} {e : TypeId} {xs : List Value} (h : w.ownsRow base e 1 (.slice A n c) n xs) : n ≤ c := by
  rcases h.2 with ⟨hv, hn⟩ | ⟨g, cap, cur, hv, hb, hg, hnc, _⟩
  · injection hv; omega
  · injection hv with _ h1 h2; omega
theorem nums_take {w : World} {base g c : Nat} {l : List Nat} (h : w.ownsRow base 3 1 (.slice (some ⟨g, 0, none⟩) l.length c) l.length (numsV l)) (n : Nat) (hn : n ≤ l.length) : NumsAt w (some ⟨g, 0, none⟩) (l.take n) := by
  obtain ⟨A', c', hv, _, hnm, _⟩ := NumsAt.of_own h
  injection hv with h1 h2 h3
  subst h1
  rcases hnm with rfl | ⟨b, o, e, hb, hc⟩
  · exact .inl (by simp)
  · refine .inr ⟨b, o, e, hb, fun i hi => ?_⟩
    rw [List.length_take] at hi
    rw [hc i (by omega)]
    simp [List.getD_eq_getElem?_getD, show i < n by omega]
theorem nums_drop {w : World} {base g c : Nat} {l : List Nat} (h : w.ownsRow base 3 1 (.slice (some ⟨g, 0, none⟩) l.length c) l.length (numsV l)) (n : Nat) (hn : n < l.length) : NumsAt w (some ⟨g, n, none⟩) (l.drop n) := by
  obtain ⟨A', c', hv, _, hnm, _⟩ := NumsAt.of_own h
  injection hv with h1 h2 h3
  subst h1
  rcases hnm with rfl | ⟨b, o, e, hb, hc⟩
  · simp at hn
  · injection e with e
    injection e with e1 e2
    subst e1 e2
    refine .inr ⟨_, n, rfl, hb, fun i hi => ?_⟩
    rw [List.length_drop] at hi
    have := hc (n + i) (by omega)
    rw [Nat.zero_add] at this
    rw [this]
    simp [List.getD_eq_getElem?_getD]
theorem Alive.keepB {w w' : World} {b : Nat} {A : Option Addr} {cap : Nat} {T : List UInt8} {I : Nat} (h : Alive w b A cap T I) (hb : Below w.heap.size w w') : Alive w' b A cap T I := h.only (S := []) (Only.of_below hb) (by simp) (by simp)
theorem own_put {w w5 : World} {b : Nat} {A : Option Addr} {cap : Nat} {T : List UInt8} {I : Nat} {g0 g1 : Nat} {t1 : TypeId} {cs0 cs1 : Array Value} {c : Nat → Nat} {v : Value} (hO : Only [b] w w5) (h0 : Blk w5 g0 55 cs0) (h1 : Blk w5 g1 t1 cs1) (hr : Alive w5 b A cap T I) (hb : b < g0 ∧ w.heap.size ≤ g0 ∧ g0 ≠ g1 ∧ ∀ a, A = some a → a.block < g0) :
    Only [b] w (World.setRow w5 g0 (tabCells c v)) ∧ Blk (World.setRow w5 g0 (tabCells c v)) g0 55 (tabCells c v) ∧ Blk (World.setRow w5 g0 (tabCells c v)) g1 t1 cs1 ∧ Alive (World.setRow w5 g0 (tabCells c v)) b A cap T I ∧ (World.setRow w5 g0 (tabCells c v)).heap.size = w5.heap.size := by
  obtain ⟨hb1, hb2, hb3, hb4⟩ := hb
  have hO2 : Only [g0] w5 (World.setRow w5 g0 (tabCells c v)) := (Only.refl _ w5).row (.inl (List.mem_singleton.2 rfl)) _
  exact ⟨hO.row (.inr hb2) _, h0.row_ _, h1.rowFar (Ne.symm hb3) _, hr.only hO2 (by simp; omega) (fun a ha => by have := hb4 a ha; simp; omega), by simp⟩
def lenV : Value → Nat
  | .slice _ n _ => n
  | _ => 0
def LensRel (b : Nat) (A : Option Addr) (cap : Nat) (T : List UInt8) (codes : List Nat) (m ns nd : Nat) (w w9 : World) (o : Option (List Nat × List Nat × Nat)) (l : Value) (wr : World) : Prop :=
  ∃ L : List Nat, wr.ownsRow w9.heap.size 3 1 l L.length (numsV L) ∧ Only [b] w wr ∧ Only [b] w9 wr ∧ Blk wr w.heap.size 55 (tabCells (fun _ => 0) (.slice none 0 0)) ∧ Blk wr (w.heap.size + 1) 55 (tabCells (fun _ => 0) (.slice none 0 0)) ∧
    (∀ x ∈ L, x ≤ 15) ∧ L.length ≤ m + 138 ∧ ((∃ I f, Alive wr b A cap T I ∧ m - L.length < f ∧ o = tailK ns nd (lensF T codes m f L I)) ∨ (Halt wr b 2 ∧ o = none))
def CodesRel (b : Nat) (A : Option Addr) (cap : Nat) (T : List UInt8) (nC : Nat) (w : World) (cb ob : Nat) (fin : List Nat × Option Nat) (i : Value) (wr : World) : Prop :=
  ∃ (k : Nat) (codes : List Nat) (st : Option Nat), i = .int .i64 (k : Nat) ∧ k ≤ nC ∧ codes.length = 19 ∧ (∀ x ∈ codes, x ≤ 15) ∧ fin = codesS T ((orderL.take nC).drop k) codes st ∧
    wr.heap[cb]? = some (.cells (numsV codes).toArray 3 (0, 0)) ∧ Blk wr ob 78 orderA ∧ Blk wr w.heap.size 55 (tabCells (fun _ => 0) (.slice none 0 0)) ∧ Blk wr (w.heap.size + 1) 55 (tabCells (fun _ => 0) (.slice none 0 0)) ∧
    RAt wr b A cap T st ∧ Only [b] w wr

/-- The two tables are still empty; l owns the lengths L. -/
structure LM (b : Nat) (w w9 : World) (L : List Nat) (l : Value) (wr : World) : Prop where
  own : wr.ownsRow w9.heap.size 3 1 l L.length (numsV L)
  o : Only [b] w wr
  o9 : Only [b] w9 wr
  t0 : Blk wr w.heap.size 55 (tabCells (fun _ => 0) (.slice none 0 0))
  t1 : Blk wr (w.heap.size + 1) 55 (tabCells (fun _ => 0) (.slice none 0 0))
theorem LM.only {b : Nat} {w w9 wr w' : World} {L : List Nat} {l : Value} (h : LM b w w9 L l wr) (hX : Only [b] wr w') (hb : b < w.heap.size) (h9 : w.heap.size + 1 < w9.heap.size) : LM b w w9 L l w' :=
  ⟨own_block h.own fun k hk => hX.block k (h.own.lt k hk).2 (by have := (h.own.lt k hk).1; simp; omega), h.o.trans hX, h.o9.trans hX, hX.blk h.t0 (by simp; omega), hX.blk h.t1 (by simp; omega)⟩
theorem LM.below {b : Nat} {w w9 wr w' : World} {L : List Nat} {l : Value} (h : LM b w w9 L l wr) (hX : Below wr.heap.size wr w') : LM b w w9 L l w' :=
  ⟨own_below h.own hX, h.o.trans (Only.of_below hX), h.o9.trans (Only.of_below hX), h.t0.below hX h.t0.lt, h.t1.below hX h.t1.lt⟩
theorem LM.alloc {b : Nat} {w w9 wr : World} {L : List Nat} {l : Value} (h : LM b w w9 L l wr) (o : Obj) : LM b w w9 L l (wr.alloc o) := h.below ((Below.refl _ wr).alloc (Nat.le_refl _) o)
theorem LM.grow {b : Nat} {w w9 wr w' : World} {L : List Nat} {l v : Value} {n x : Nat} (h : LM b w w9 L l wr) (hown : w'.ownsRow w9.heap.size 3 1 v (L.length + n) (numsV L ++ List.replicate n (.int .i64 (x : Nat)))) (hg : wr.grownBy w' l.ownBlock) (hw2 : w.heap.size + 1 < w9.heap.size) : LM b w w9 (L ++ List.replicate n x) v w' := by
  have hr : ∀ k, l.ownBlock = some k → w9.heap.size ≤ k := fun k hk => (h.own.lt k hk).1
  refine ⟨?_, h.o.grown hg (fun k hk => .inr (by have := hr k hk; omega)), h.o9.grown hg (fun k hk => .inr (hr k hk)), h.t0.grown hg (fun e => by have := hr _ e.symm; omega), h.t1.grown hg (fun e => by have := hr _ e.symm; omega)⟩
  have e : numsV (L ++ List.replicate n x) = numsV L ++ List.replicate n (.int .i64 (x : Nat)) := by simp [numsV]
  rw [e]
  simpa using hown
theorem Alive.grownL {b : Nat} {A : Option Addr} {cap : Nat} {T : List UInt8} {I : Nat} {wr w' : World} {base n : Nat} {l : Value} {xs : List Value} (h : Alive wr b A cap T I) (hown : wr.ownsRow base 3 1 l n xs) (hg : wr.grownBy w' l.ownBlock) (hb : b < base) (hA : ∀ a, A = some a → a.block < base) : Alive w' b A cap T I :=
  h.only (S := ownL l) ((Only.refl _ wr).grown hg (fun k hk => .inl (mem_ownL.2 hk))) (fun hm => by have := (hown.lt b (mem_ownL.1 hm)).1; omega) (fun a ha hm => by have := (hown.lt _ (mem_ownL.1 hm)).1; have := hA a ha; omega)
theorem src_rep {w : World} {g n : Nat} {x : Int} (h : w.heap[g]? = some (.cells (repV n n x).toArray 3 (0, 0))) : Src w (some ⟨g, 0, none⟩) (List.replicate n (.int .i64 x)) := by
  refine .inr ⟨_, rfl, fun j u hu => ?_⟩
  rw [addr_add, Nat.zero_add, cell_of_row _ _ _ _ _ _ h, List.getElem?_toArray, repV_full]
  exact hu
theorem repeat_k (g x n : Nat) (k : Int) (w : World) (z : Nat) (hz : w.heap.size = z) (hg : w.cell? ⟨g, 0, none⟩ = some (.int .i64 (x : Nat))) (hk : k = (n : Nat)) (hn : 1 ≤ n) (hn2 : n ≤ 60000) :
    Calls Try.prog 34 #[.slice (some ⟨g, 0, none⟩) 1 1, .int .i64 k] w fun e w' => e = .returned (.slice (some ⟨z, 0, none⟩) n n) ∧ Src w' (some ⟨z, 0, none⟩) (List.replicate n (.int .i64 (x : Nat))) ∧ Below w.heap.size w w' := by
  subst hk hz
  refine (repeat_any g _ n w hg hn hn2).mono ?_
  rintro e w' ⟨rfl, h1, h2⟩
  exact ⟨rfl, src_rep h1, h2⟩
theorem Only.cell {S : List Nat} {w w' : World} (h : Only S w w') {p : Addr} {v : Value} (hS : p.block ∉ S) (hc : w.cell? p = some v) : w'.cell? p = some v := by
  have hp := World.block_lt_of_cell? _ _ hc
  rw [← hc]
  simp only [World.cell?, h.block p.block hp hS]
theorem rep_one (n x : Nat) : ∀ u ∈ List.replicate n (Value.int .i64 (x : Nat)), u.oneCell' = true := by intro v hv; rw [List.eq_of_mem_replicate hv]; rfl
theorem rep_len (n x : Nat) : (List.replicate n (Value.int .i64 (x : Nat))).length = n * 1 := by simp
theorem len63 {n : Nat} (h : n ≤ 1000) : n ≤ maxLen ∧ n * 8 ≤ 140737488355328 := by unfold maxLen; omega
theorem lens_bad {b : Nat} {A : Option Addr} {cap : Nat} {T : List UInt8} {codes : List Nat} {m ns nd : Nat} {w w9 wr : World} {o : Option (List Nat × List Nat × Nat)} {L : List Nat} {l : Value} (h : LM b w w9 L l wr) (h15 : ∀ x ∈ L, x ≤ 15) (hm : L.length ≤ m + 138) (hh : Halt wr b 2) (ho : o = none) : LensRel b A cap T codes m ns nd w w9 o l wr :=
  ⟨L, h.own, h.o, h.o9, h.t0, h.t1, h15, hm, .inr ⟨hh, ho⟩⟩
theorem lens_more {b : Nat} {A : Option Addr} {cap : Nat} {T : List UInt8} {codes : List Nat} {m ns nd f I n x : Nat} {w w9 wr : World} {o : Option (List Nat × List Nat × Nat)} {L : List Nat} {l : Value} (h : LM b w w9 (L ++ List.replicate n x) l wr) (h15 : ∀ x ∈ L, x ≤ 15) (hx : x ≤ 15) (hm : L.length < m) (hn : n ≤ 138) (hn1 : 1 ≤ n) (ha : Alive wr b A cap T I) (hf : m - L.length < f + 1) (ho : o = tailK ns nd (lensF T codes m f (L ++ List.replicate n x) I)) : LensRel b A cap T codes m ns nd w w9 o l wr := by
  refine ⟨_, h.own, h.o, h.o9, h.t0, h.t1, ?_, by simp; omega, .inl ⟨I, f, ha, by simp; omega, ho⟩⟩
  intro y hy
  rcases List.mem_append.1 hy with hy | hy
  · exact h15 y hy
  · rw [List.eq_of_mem_replicate hy]; exact hx

/-- The two results' blocks, while own ends. -/
structure EM (b : Nat) (w : World) (cs0 cs1 : Array Value) (wx : World) : Prop where
  o : Only [b] w wx
  t0 : Blk wx w.heap.size 55 cs0
  t1 : Blk wx (w.heap.size + 1) 55 cs1
theorem EM.below {b : Nat} {w wx w' : World} {cs0 cs1 : Array Value} (h : EM b w cs0 cs1 wx) (hB : Below wx.heap.size wx w') : EM b w cs0 cs1 w' :=
  ⟨h.o.trans (Only.of_below hB), h.t0.below hB h.t0.lt, h.t1.below hB h.t1.lt⟩
theorem EM.set {b : Nat} {w wx : World} {cs0 cs1 : Array Value} (h : EM b w cs0 cs1 wx) (hb : b < w.heap.size) (i : Nat) (v : Value) : EM b w cs0 cs1 (wx.setCell ⟨b, i, none⟩ v) :=
  ⟨h.o.set (.inl (List.mem_singleton.2 rfl)) _ _, h.t0.far (by simp; omega) _, h.t1.far (by simp; omega) _⟩
theorem EM.row0 {b : Nat} {w wx : World} {cs0 cs1 : Array Value} (h : EM b w cs0 cs1 wx) (cs : Array Value) : EM b w cs cs1 (wx.setRow w.heap.size cs) :=
  ⟨h.o.row (.inr (Nat.le_refl _)) _, h.t0.row_ _, h.t1.rowFar (by omega) _⟩
theorem EM.row1 {b : Nat} {w wx : World} {cs0 cs1 : Array Value} (h : EM b w cs0 cs1 wx) (cs : Array Value) : EM b w cs0 cs (wx.setRow (w.heap.size + 1) cs) :=
  ⟨h.o.row (.inr (by omega)) _, h.t0.rowFar (by omega) _, h.t1.row_ _⟩
theorem Alive.rowFar {w : World} {b : Nat} {A : Option Addr} {cap : Nat} {T : List UInt8} {I : Nat} (h : Alive w b A cap T I) {g : Nat} (hb : b < g) (hA : ∀ a, A = some a → a.block < g) (cs : Array Value) : Alive (w.setRow g cs) b A cap T I :=
  h.only (S := [g]) ((Only.refl _ w).row (.inl (List.mem_singleton.2 rfl)) _) (by simp; omega) (fun a ha => by have := hA a ha; simp; omega)
theorem NumsAt.rowFar {w : World} {A : Option Addr} {L : List Nat} (h : NumsAt w A L) {g : Nat} (hA : ∀ a, A = some a → a.block ≠ g) (cs : Array Value) : NumsAt (w.setRow g cs) A L :=
  h.only (S := [g]) ((Only.refl _ w).row (.inl (List.mem_singleton.2 rfl)) _) (fun a ha => by have := hA a ha; simp; exact this)
theorem NumsAt.setFar {w : World} {A : Option Addr} {L : List Nat} (h : NumsAt w A L) {g : Nat} (hA : ∀ a, A = some a → a.block ≠ g) (i : Nat) (v : Value) : NumsAt (w.setCell ⟨g, i, none⟩ v) A L :=
  h.only (S := [g]) ((Only.refl _ w).set (.inl (List.mem_singleton.2 rfl)) _ _) (fun a ha => by have := hA a ha; simp; exact this)
theorem Halt.below {w w' : World} {b : Nat} {e : Int} (h : Halt w b e) (hB : Below w.heap.size w w') : Halt w' b e := by
  obtain ⟨_, _, _, _, hb⟩ := h
  exact ⟨_, _, _, _, hb.below hB hb.lt⟩
theorem Halt.rowFar {w : World} {b : Nat} {e : Int} (h : Halt w b e) {g : Nat} (hg : b < g) (cs : Array Value) : Halt (w.setRow g cs) b e := by
  obtain ⟨_, _, _, _, hb⟩ := h
  exact ⟨_, _, _, _, hb.rowFar (by omega) _⟩
theorem own_rowLt {w : World} {base : Nat} {e : TypeId} {size : Nat} {v : Value} {n : Nat} {xs : List Value} (h : w.ownsRow base e size v n xs) {g : Nat} (hg : g < base) (cs : Array Value) : (w.setRow g cs).ownsRow base e size v n xs :=
  own_row h g cs (fun e => by have := (h.lt g e).1; omega)
theorem owned_some {o : Option (List Nat × List Nat × Nat)} {b : Nat} {A : Option Addr} {cap : Nat} {T : List UInt8} {w w' : World} {L : List Nat} {ns nd I : Nat} {B1 B2 : Nat} {A1 A2 : Option Addr} {n1 k1 n2 k2 : Nat} (ho : o = tailK ns nd (some (L, I))) (hl : L.length = ns + nd) (h256 : L.getD 256 0 ≠ 0) (hr1 : right (L.take ns) = true) (hr2 : right (L.drop ns) = true)
    (hO : Only [b] w (w'.drewN 1)) (hh : Alive w' b A cap T I) (hB1 : w.heap.size ≤ B1) (hB2 : w.heap.size ≤ B2) (h1 : w'.ownsRow B1 3 1 (.slice A1 n1 k1) (sgs (L.take ns) 15).length (numsV (sgs (L.take ns) 15))) (h2 : w'.ownsRow B2 3 1 (.slice A2 n2 k2) (sgs (L.drop ns) 15).length (numsV (sgs (L.drop ns) 15)))
    (hns : ns ≤ 288) (hnd : nd ≤ 288) :
    Owned o b A cap T w (.returned (.tuple #[.agg (tabCells (fun n => (L.take ns).count n) (.slice A1 n1 k1)), .agg (tabCells (fun n => (L.drop ns).count n) (.slice A2 n2 k2))])) (w'.drewN 1) := by
  have e : o = some (L.take ns, L.drop ns, I) := ho.trans (if_pos ⟨hl, h256, hr1, hr2⟩)
  subst e
  exact ⟨hO, ⟨_, _, _, _, rfl, ⟨_, _, _, rfl⟩, ⟨_, _, _, rfl⟩, rfl, rfl, own_drewN (own_base h1 hB1) 1, own_drewN (own_base h2 hB2) 1⟩, hh.same rfl, by rw [List.length_take]; omega, by rw [List.length_drop]; omega⟩

end Go.Proofs.Ythceefhnmjjddaa
