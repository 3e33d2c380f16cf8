/-
  The ring's own functions (slot, has, At, Put, Take, Len, New), each by a contract, over a ring that is known block by block.
-/
import Derived.Test.YtgcfpehaabajoaaRows
import Derived.WalkKit
import Derived.WalkLawsBesides
import Derived.WalkSpells
import Derived.WalkSmall
import Derived.Deep.QuietTactic
import Derived.BigQuiet
import Derived.Lib.Hide
namespace Go.Proofs.Ytgcfpehaabajoaa
open Go.RowKit

/-- Block g is just these cells, none frozen. -/
def Blk (w : World) (g : Nat) (t : TypeId) (cs : Array Value) : Prop := w.heap[g]? = some (.cells cs t (0, 0))

theorem Blk.cell {w : World} {g : Nat} {t : TypeId} {cs : Array Value} (h : Blk w g t cs) (i : Nat) : w.cell? ⟨g, i, none⟩ = cs[i]? := cell_of_row w g i cs t (0, 0) h
theorem Blk.frozen {w : World} {g : Nat} {t : TypeId} {cs : Array Value} (h : Blk w g t cs) (i : Nat) : w.frozen? ⟨g, i, none⟩ = false := by
  unfold Blk at h
  simp [World.frozen?, h]
theorem Blk.lt {w : World} {g : Nat} {t : TypeId} {cs : Array Value} (h : Blk w g t cs) : g < w.heap.size := by
  rcases Nat.lt_or_ge g w.heap.size with hlt | hge
  · exact hlt
  · unfold Blk at h; rw [Array.getElem?_eq_none hge] at h; cases h

/-- The cells of a ring's row. -/
def rowOf (raw : List Int) : Array Value := (raw.map (Value.int .i64)).toArray

theorem size_rowOf (raw : List Int) : (rowOf raw).size = raw.length := by simp [rowOf]
theorem rowOf_get (raw : List Int) (j : Nat) (h : j < raw.length) : (rowOf raw)[j]? = some (.int .i64 (raw.getD j 0)) := by
  simp [rowOf, List.getElem?_eq_getElem h]
theorem Blk.row {w : World} {g : Nat} {raw : List Int} (h : Blk w g 3 (rowOf raw)) (j : Nat) (hj : j < raw.length) : w.cell? ⟨g, j, none⟩ = some (.int .i64 (raw.getD j 0)) :=
  (h.cell j).trans (rowOf_get raw j hj)
theorem Blk.drewN {w : World} {g : Nat} {t : TypeId} {cs : Array Value} (h : Blk w g t cs) (n : Nat) : Blk (w.drewN n) g t cs := h
theorem Blk.set_ {w : World} {g : Nat} {t : TypeId} {cs : Array Value} (h : Blk w g t cs) (i : Nat) (u : Value) : Blk (w.setCell ⟨g, i, none⟩ u) g t (cs.setIfInBounds i u) := by
  unfold Blk at h ⊢
  simp [World.setCell, Array.getElem?_modify, h]
theorem Blk.far {w : World} {g : Nat} {t : TypeId} {cs : Array Value} (h : Blk w g t cs) {p : Addr} (hp : g ≠ p.block) (u : Value) : Blk (w.setCell p u) g t cs := (Below.heap_setCell w p u g hp).trans h
theorem Blk.setRow {w : World} {g : Nat} {raw : List Int} (h : Blk w g 3 (rowOf raw)) (i : Nat) (v : Int) : Blk (w.setCell ⟨g, i, none⟩ (.int .i64 v)) g 3 (rowOf (raw.set i v)) := by
  have := h.set_ i (.int .i64 v)
  have e : (rowOf raw).setIfInBounds i (.int .i64 v) = rowOf (raw.set i v) := by
    simp [rowOf]
  rw [e] at this
  exact this
theorem Blk.ne_ {w : World} {g g' : Nat} {t t' : TypeId} {cs cs' : Array Value} (h : Blk w g t cs) (h' : Blk w g' t' cs') (hne : t ≠ t') : g ≠ g' := by
  rintro rfl
  unfold Blk at h h'
  rw [h] at h'
  injection h' with h'
  injection h' with _ ht
  exact hne ht

/-- Blocks b and g alone may have turned; nothing is new. -/
structure Turn (b g : Nat) (w w' : World) : Prop where
  os : w'.os = w.os
  tape : w'.tape = w.tape
  output : w'.output = w.output
  size : w'.heap.size = w.heap.size
  block : ∀ k, k ≠ b → k ≠ g → w'.heap[k]? = w.heap[k]?
theorem Turn.refl (b g : Nat) (w : World) : Turn b g w w := ⟨rfl, rfl, rfl, rfl, fun _ _ _ => rfl⟩
theorem Turn.trans {b g : Nat} {w x y : World} (h : Turn b g w x) (k : Turn b g x y) : Turn b g w y :=
  ⟨k.os.trans h.os, k.tape.trans h.tape, k.output.trans h.output, k.size.trans h.size, fun i hi hj => (k.block i hi hj).trans (h.block i hi hj)⟩
theorem Turn.drewN {b g : Nat} {w x : World} (h : Turn b g w x) (n : Nat) : Turn b g w (x.drewN n) := ⟨h.os, h.tape, h.output, h.size, h.block⟩
theorem Turn.setB {b g : Nat} {w x : World} (h : Turn b g w x) (i : Nat) (u : Value) : Turn b g w (x.setCell ⟨b, i, none⟩ u) :=
  h.trans ⟨rfl, rfl, rfl, by simp [World.setCell], fun k hk _ => Below.heap_setCell _ _ _ _ hk⟩
theorem Turn.setG {b g : Nat} {w x : World} (h : Turn b g w x) (i : Nat) (u : Value) : Turn b g w (x.setCell ⟨g, i, none⟩ u) :=
  h.trans ⟨rfl, rfl, rfl, by simp [World.setCell], fun k _ hk => Below.heap_setCell _ _ _ _ hk⟩
theorem Turn.below {b g B : Nat} {w x : World} (h : Turn b g w x) (hb : B ≤ b) (hg : B ≤ g) : Below B w x :=
  ⟨h.os, h.tape, h.output, Nat.le_of_eq h.size.symm, fun k hk => h.block k (by omega) (by omega)⟩
theorem Turn.blk {b g k : Nat} {t : TypeId} {cs : Array Value} {w x : World} (h : Turn b g w x) (hk : Blk w k t cs) (h1 : k ≠ b) (h2 : k ≠ g) : Blk x k t cs :=
  (h.block k h1 h2).trans hk

/-- What the row of a ring of N slots holds, from slot f on, n things. -/
structure Holds (N f n : Nat) (raw : List Int) (c : Nat → Int) : Prop where
  len : raw.length = N
  hN : N ≤ 1024
  hf : f < N
  hn : n ≤ N
  hat : ∀ j, j < n → raw.getD ((f + j) % N) 0 = c j

theorem mod_inj {N f j k : Nat} (hj : j < N) (hk : k < N) (h : (f + j) % N = (f + k) % N) : j = k := by
  have h1 := Nat.div_add_mod (f + j) N
  have h2 := Nat.div_add_mod (f + k) N
  rcases Nat.lt_trichotomy ((f + j) / N) ((f + k) / N) with hq | hq | hq
  · have h3 : N * ((f + j) / N) + N ≤ N * ((f + k) / N) := by
      rw [← Nat.mul_succ]; exact Nat.mul_le_mul_left N hq
    omega
  · rw [hq] at h1; omega
  · have h3 : N * ((f + k) / N) + N ≤ N * ((f + j) / N) := by
      rw [← Nat.mul_succ]; exact Nat.mul_le_mul_left N hq
    omega

/-- Slot k is written: the k-th thing is another one. -/
theorem Holds.set {N f n : Nat} {raw : List Int} {c : Nat → Int} (h : Holds N f n raw c) (k : Nat) (hk : k < N) (v : Int) :
    Holds N f n (raw.set ((f + k) % N) v) (fun j => if j = k then v else c j) := by
  refine ⟨by rw [List.length_set]; exact h.len, h.hN, h.hf, h.hn, fun j hj => ?_⟩
  have hm : (f + k) % N < raw.length := by rw [h.len]; exact Nat.mod_lt _ (by omega)
  by_cases e : j = k
  · subst e
    rw [if_pos rfl, List.getD_eq_getElem?_getD, List.getElem?_set_self hm]
    rfl
  · rw [if_neg e]
    have hne : (f + k) % N ≠ (f + j) % N := fun he => e (mod_inj (by have := h.hn; omega) hk he.symm)
    rw [List.getD_eq_getElem?_getD, List.getElem?_set_ne hne, ← List.getD_eq_getElem?_getD]
    exact h.hat j hj

theorem Holds.congr {N f n : Nat} {raw : List Int} {c d : Nat → Int} (h : Holds N f n raw c) (e : ∀ j, j < n → c j = d j) : Holds N f n raw d :=
  ⟨h.len, h.hN, h.hf, h.hn, fun j hj => (h.hat j hj).trans (e j hj)⟩

/-- One thing more, at slot n. -/
theorem Holds.put {N f n : Nat} {raw : List Int} {c : Nat → Int} (h : Holds N f n raw c) (hn : n < N) (v : Int) :
    Holds N f (n + 1) (raw.set ((f + n) % N) v) (fun j => if j = n then v else c j) := by
  have h2 := h.set n hn v
  refine ⟨h2.len, h2.hN, h2.hf, hn, fun j hj => ?_⟩
  by_cases e : j = n
  · subst e
    rw [if_pos rfl, List.getD_eq_getElem?_getD, List.getElem?_set_self (by rw [h.len]; exact Nat.mod_lt _ (by omega))]
    rfl
  · exact h2.hat j (by omega)

theorem mod_step {N f j : Nat} : ((f + 1) % N + j) % N = (f + (j + 1)) % N := by
  rw [Nat.mod_add_mod]; congr 1; omega

/-- The first thing goes. -/
theorem Holds.tail {N f n : Nat} {raw : List Int} {c : Nat → Int} (h : Holds N f (n + 1) raw c) :
    Holds N ((f + 1) % N) n raw (fun j => c (j + 1)) :=
  ⟨h.len, h.hN, Nat.mod_lt _ (by have := h.hn; omega), by have := h.hn; omega, fun j hj => by rw [mod_step]; exact h.hat (j + 1) (by omega)⟩

/-- The ring: its block b, its row's block g. -/
structure IsRing (w : World) (b g N f n : Nat) (raw : List Int) (c : Nat → Int) : Prop where
  hb : Blk w b 53 #[.slice (some ⟨g, 0, none⟩) N N, .int .i64 (f : Nat), .int .i64 (n : Nat)]
  hg : Blk w g 3 (rowOf raw)
  hh : Holds N f n raw c
theorem IsRing.drewN {w : World} {b g N f n : Nat} {raw : List Int} {c : Nat → Int} (h : IsRing w b g N f n raw c) (k : Nat) : IsRing (w.drewN k) b g N f n raw c := ⟨h.hb, h.hg, h.hh⟩
theorem IsRing.ne {w : World} {b g N f n : Nat} {raw : List Int} {c : Nat → Int} (h : IsRing w b g N f n raw c) : b ≠ g := h.hb.ne_ h.hg (by decide)
theorem IsRing.turn {w w' : World} {b g b' g' N f n : Nat} {raw : List Int} {c : Nat → Int} (h : IsRing w b g N f n raw c) (t : Turn b' g' w w')
    (h1 : b ≠ b') (h2 : b ≠ g') (h3 : g ≠ b') (h4 : g ≠ g') : IsRing w' b g N f n raw c := ⟨t.blk h.hb h1 h2, t.blk h.hg h3 h4, h.hh⟩

theorem slot_any (b g N f n i : Nat) (w : World) (hb : Blk w b 53 #[.slice (some ⟨g, 0, none⟩) N N, .int .i64 (f : Nat), .int .i64 (n : Nat)])
    (hN1 : 1 ≤ N) (hN2 : N ≤ 1024) (hf : f < N) (hi : i ≤ 1024) :
    Calls Try.prog 21 #[.pointer (some ⟨b, 0, none⟩), .int .i64 (i : Nat)] w fun e w' => e = .returned (.pointer (some ⟨g, (f + i) % N, none⟩)) ∧ ∃ q, w' = w.drewN q := by
  have h0 := hb.cell 0
  have h1 := hb.cell 1
  simp at h0 h1
  clear hb
  have e1 : IntKind.i64.wrap ((f : Int) + (i : Int)) = (f : Int) + (i : Int) := IntWalk.i64_in _ (by omega)
  have e2 : ((f : Int) + (i : Int)).tmod (N : Int) = ((f : Int) + (i : Int)) % (N : Int) := Int.tmod_eq_emod_of_nonneg (by omega)
  have e3 : (((f : Int) + (i : Int)) % (N : Int)).toNat = (f + i) % N := by
    rw [← Int.natCast_add, ← Int.natCast_emod, Int.toNat_natCast]
  have b1 : (0 : Int) ≤ ((f : Int) + (i : Int)) % (N : Int) := Int.emod_nonneg _ (by omega)
  have b2 : ((f : Int) + (i : Int)) % (N : Int) < (N : Int) := Int.emod_lt_of_pos _ (by omega)
  have n0 : ¬ (N = 0) := by omega
  go_enter Try.func21, Try.ntmps21
  go_wp2_with fail
  go_quiet (fail)
  clear e1 e2 e3 b1 b2 n0
  go_wp2
  go_ret
  exact ⟨rfl, _, rfl⟩

theorem ret_bool {a b : Bool} (h : a = b) : Ending.returned (.bool a) = .returned (.bool b) := by rw [h]

theorem has_yes (b g N f n i : Nat) (w : World) (hb : Blk w b 53 #[.slice (some ⟨g, 0, none⟩) N N, .int .i64 (f : Nat), .int .i64 (n : Nat)]) (hi : i < n) :
    Calls Try.prog 23 #[.pointer (some ⟨b, 0, none⟩), .int .i64 (i : Nat)] w fun e w' => e = .returned (.bool true) ∧ w = w' := by
  have h2 := hb.cell 2
  simp at h2
  clear hb
  have h0 : (0 : Int) ≤ (i : Int) := by omega
  go_enter Try.func23, Try.ntmps23
  go_wp2
  go_ret
  exact ⟨ret_bool (by simp), rfl⟩

theorem has_no (b g N f n : Nat) (i : Int) (w : World) (hb : Blk w b 53 #[.slice (some ⟨g, 0, none⟩) N N, .int .i64 (f : Nat), .int .i64 (n : Nat)]) (hi : i < 0 ∨ (n : Int) ≤ i) :
    Calls Try.prog 23 #[.pointer (some ⟨b, 0, none⟩), .int .i64 i] w fun e w' => e = .returned (.bool false) ∧ w = w' := by
  have h2 := hb.cell 2
  simp at h2
  clear hb
  rcases Int.lt_or_le i 0 with h0 | h0
  · clear hi
    go_enter Try.func23, Try.ntmps23
    go_wp2
    go_ret
    exact ⟨rfl, rfl⟩
  · have h1 : (n : Int) ≤ i := by omega
    clear hi
    go_enter Try.func23, Try.ntmps23
    go_wp2
    go_ret
    exact ⟨ret_bool (by simpa using h1), rfl⟩

theorem has_nil (i : Int) (w : World) :
    Calls Try.prog 23 #[.pointer none, .int .i64 i] w fun e w' => e = .returned (.bool false) ∧ w = w' := by
  go_enter Try.func23, Try.ntmps23
  go_wp2
  go_ret
  exact ⟨rfl, rfl⟩

theorem at_yes (b g N f n i : Nat) (raw : List Int) (c : Nat → Int) (w : World) (h : IsRing w b g N f n raw c) (hi : i < n) :
    Calls Try.prog 17 #[.pointer (some ⟨b, 0, none⟩), .int .i64 (i : Nat)] w fun e w' => e = .returned (.tuple #[.int .i64 (c i), .bool true]) ∧ ∃ q, w' = w.drewN q := by
  obtain ⟨hb, hg, hh⟩ := h
  have hc := hg.row ((f + i) % N) (by rw [hh.len]; exact Nat.mod_lt _ (by have := hh.hf; omega))
  rw [hh.hat i hi] at hc
  have hN := hh.hN
  have hf := hh.hf
  have hn := hh.hn
  clear hh hg
  go_enter Try.func17, Try.ntmps17
  go_wp2_with (first
    | (go_at_call 23; refine (has_yes b g N f n i _ hb hi).mono ?_; rintro e w' ⟨rfl, rfl⟩)
    | (go_at_call 21; refine (slot_any b g N f n i _ hb (by omega) hN hf (by omega)).mono ?_; rintro e w' ⟨rfl, q, rfl⟩))
  go_ret2
  exact ⟨rfl, _, rfl⟩

theorem at_no (b g N f n : Nat) (i : Int) (w : World) (hb : Blk w b 53 #[.slice (some ⟨g, 0, none⟩) N N, .int .i64 (f : Nat), .int .i64 (n : Nat)]) (hi : i < 0 ∨ (n : Int) ≤ i) :
    Calls Try.prog 17 #[.pointer (some ⟨b, 0, none⟩), .int .i64 i] w fun e w' => e = .returned (.tuple #[.int .i64 0, .bool false]) ∧ w = w' := by
  have H := Lib.hid hi
  clear hi
  go_enter Try.func17, Try.ntmps17
  go_wp2_with (go_at_call 23; refine (has_no b g N f n i _ hb H.out).mono ?_; rintro e w' ⟨rfl, rfl⟩)
  go_ret2
  exact ⟨rfl, rfl⟩

theorem at_nil (i : Int) (w : World) :
    Calls Try.prog 17 #[.pointer none, .int .i64 i] w fun e w' => e = .returned (.tuple #[.int .i64 0, .bool false]) ∧ w = w' := by
  go_enter Try.func17, Try.ntmps17
  go_wp2_with (go_at_call 23; refine (has_nil i _).mono ?_; rintro e w' ⟨rfl, rfl⟩)
  go_ret2
  exact ⟨rfl, rfl⟩

theorem len_any (b g N f n : Nat) (w : World) (hb : Blk w b 53 #[.slice (some ⟨g, 0, none⟩) N N, .int .i64 (f : Nat), .int .i64 (n : Nat)]) :
    Calls Try.prog 10 #[.pointer (some ⟨b, 0, none⟩)] w fun e w' => e = .returned (.int .i64 (n : Nat)) ∧ w = w' := by
  have h2 := hb.cell 2
  simp at h2
  clear hb
  go_enter Try.func10, Try.ntmps10
  go_wp2
  go_ret
  exact ⟨rfl, rfl⟩

theorem len_nil (w : World) :
    Calls Try.prog 10 #[.pointer none] w fun e w' => e = .returned (.int .i64 0) ∧ w = w' := by
  go_enter Try.func10, Try.ntmps10
  go_wp2
  go_ret
  exact ⟨rfl, rfl⟩

theorem put_full (b g N f n : Nat) (x : Int) (w : World) (hb : Blk w b 53 #[.slice (some ⟨g, 0, none⟩) N N, .int .i64 (f : Nat), .int .i64 (n : Nat)]) (hn : n = N) :
    Calls Try.prog 8 #[.pointer (some ⟨b, 0, none⟩), .int .i64 x] w fun e w' => e = .returned (.int .i64 6) ∧ ∃ q, w' = w.drewN q := by
  subst hn
  have h0 := hb.cell 0
  have h2 := hb.cell 2
  simp at h0 h2
  clear hb
  go_enter Try.func8, Try.ntmps8
  go_wp2_with fail
  go_quiet (fail)
  go_wp2
  go_ret
  exact ⟨rfl, _, rfl⟩

theorem put_nil (x : Int) (w : World) :
    Calls Try.prog 8 #[.pointer none, .int .i64 x] w fun e w' => e = .returned (.int .i64 1) ∧ w = w' := by
  go_enter Try.func8, Try.ntmps8
  go_wp2
  go_ret
  exact ⟨rfl, rfl⟩

theorem put_room (b g N f n : Nat) (x : Int) (raw : List Int) (c : Nat → Int) (w : World) (h : IsRing w b g N f n raw c) (hn : n < N) :
    Calls Try.prog 8 #[.pointer (some ⟨b, 0, none⟩), .int .i64 x] w fun e w' => e = .returned (.int .i64 0) ∧ Turn b g w w' ∧
      ∃ raw', IsRing w' b g N f (n + 1) raw' (fun j => if j = n then x else c j) := by
  have hne := h.ne
  obtain ⟨hb, hg, hh⟩ := h
  have h0 := hb.cell 0
  have h2 := hb.cell 2
  have f2 := hb.frozen 2
  simp at h0 h2
  have hm : (f + n) % N < raw.length := by rw [hh.len]; exact Nat.mod_lt _ (by omega)
  have hc := hg.row ((f + n) % N) hm
  have fc := hg.frozen ((f + n) % N)
  have hN := hh.hN
  have hf := hh.hf
  have hd : ((n : Int) == (N : Int)) = false := by simp; omega
  go_enter Try.func8, Try.ntmps8
  go_wp2_with fail
  go_quiet (fail)
  go_wp2_with (go_at_call 21; refine (slot_any b g N f n n _ (by exact hb) (by omega) hN hf (by omega)).mono ?_; rintro e w' ⟨rfl, q, rfl⟩)
  go_ret
  have e1 : ((n : Int) + 1) = ((n + 1 : Nat) : Int) := rfl
  refine ⟨rfl, (((Turn.refl b g w).drewN _).setG _ _).setB _ _, raw.set ((f + n) % N) x, ?_, (((hg.drewN _).setRow _ _).far (p := ⟨b, 2, none⟩) (Ne.symm hne) _), hh.put hn x⟩
  rw [e1]
  exact ((hb.drewN _).far (p := ⟨g, _, none⟩) hne _).set_ 2 _

theorem slot_at (b g N f n k : Nat) (i : Int) (w : World) (hb : Blk w b 53 #[.slice (some ⟨g, 0, none⟩) N N, .int .i64 (f : Nat), .int .i64 (n : Nat)])
    (hN2 : N ≤ 1024) (hf : f < N) (hi : i = (k : Nat)) (hk : k ≤ 1024) :
    Calls Try.prog 21 #[.pointer (some ⟨b, 0, none⟩), .int .i64 i] w fun e w' => e = .returned (.pointer (some ⟨g, (f + k) % N, none⟩)) ∧ ∃ q, w' = w.drewN q := by
  subst hi
  exact slot_any b g N f n k w hb (by omega) hN2 hf hk

/-- Behind the loop's rounds down to k: the things from k + 1 to i have moved up by one. -/
def shift (c : Nat → Int) (i k : Nat) : Nat → Int := fun j => if k < j ∧ j ≤ i then c (j - 1) else c j
theorem shift_top (c : Nat → Int) (i : Nat) (j : Nat) : c j = shift c i i j := by
  unfold shift; rw [if_neg (by omega)]
theorem shift_step (c : Nat → Int) (i k : Nat) (hk : k + 1 ≤ i) (j : Nat) : (if j = k + 1 then shift c i (k + 1) k else shift c i (k + 1) j) = shift c i k j := by
  unfold shift
  by_cases e : j = k + 1
  · subst e
    rw [if_pos rfl, if_neg (by omega), if_pos (by omega)]
    rfl
  · rw [if_neg e]
    by_cases h : k + 1 < j ∧ j ≤ i
    · rw [if_pos h, if_pos (by omega)]
    · rw [if_neg h, if_neg (by omega)]
theorem shift_end (c : Nat → Int) (i : Nat) (j : Nat) : shift c i 0 (j + 1) = if j < i then c j else c (j + 1) := by
  unfold shift
  by_cases h : j < i
  · rw [if_pos (by omega), if_pos h]; rfl
  · rw [if_neg (by omega), if_neg h]

theorem take_no (b g N f n : Nat) (i : Int) (w : World) (hb : Blk w b 53 #[.slice (some ⟨g, 0, none⟩) N N, .int .i64 (f : Nat), .int .i64 (n : Nat)]) (hi : i < 0 ∨ (n : Int) ≤ i) :
    Calls Try.prog 9 #[.pointer (some ⟨b, 0, none⟩), .int .i64 i] w fun e w' => e = .returned (.tuple #[.int .i64 0, .bool false]) ∧ w = w' := by
  have H := Lib.hid hi
  clear hi
  go_enter Try.func9, Try.ntmps9
  go_wp2_with (go_at_call 17; refine (at_no b g N f n i _ hb H.out).mono ?_; rintro e w' ⟨rfl, rfl⟩)
  go_ret2
  exact ⟨rfl, rfl⟩

theorem take_nil (i : Int) (w : World) :
    Calls Try.prog 9 #[.pointer none, .int .i64 i] w fun e w' => e = .returned (.tuple #[.int .i64 0, .bool false]) ∧ w = w' := by
  go_enter Try.func9, Try.ntmps9
  go_wp2_with (go_at_call 17; refine (at_nil i _).mono ?_; rintro e w' ⟨rfl, rfl⟩)
  go_ret2
  exact ⟨rfl, rfl⟩

theorem take_yes (b g N f n i : Nat) (raw : List Int) (c : Nat → Int) (w : World) (h : IsRing w b g N f n raw c) (hi : i < n) :
    Calls Try.prog 9 #[.pointer (some ⟨b, 0, none⟩), .int .i64 (i : Nat)] w fun e w' => e = .returned (.tuple #[.int .i64 (c i), .bool true]) ∧ Turn b g w w' ∧
      ∃ raw', IsRing w' b g N ((f + 1) % N) (n - 1) raw' (fun j => if j < i then c j else c (j + 1)) := by
  have hne := h.ne
  have hN := h.hh.hN
  have hf := h.hh.hf
  have hn := h.hh.hn
  go_enter Try.func9, Try.ntmps9
  go_wp2_with (go_at_call 17; refine (at_yes b g N f n i raw c _ h hi).mono ?_; rintro e w' ⟨rfl, q, rfl⟩)
  go_loopw [1] (fun v wr => ∃ k : Nat, v = .int .i64 (k : Nat) ∧ k ≤ i ∧ Turn b g w wr ∧ ∃ raw', IsRing wr b g N f n raw' (shift c i k)) (fun v _ => (intOf v).toNat)
  case atStart => exact ⟨i, rfl, Nat.le_refl _, (Turn.refl b g w).drewN _, raw, (h.hb.drewN q), (h.hg.drewN q), h.hh.congr fun j _ => shift_top c i j⟩
  case round =>
    obtain ⟨k, rfl, hk, ht, raw', hr⟩ := hrel
    clear h
    have hb := hr.hb
    rcases k with _ | k
    · have hg := hr.hg
      have hb0 := hb.cell 0
      have hb1 := hb.cell 1
      have hb2 := hb.cell 2
      have fb1 := hb.frozen 1
      have fb2 := hb.frozen 2
      simp at hb0 hb1 hb2
      have hc := hg.row (f % N) (by rw [hr.hh.len]; exact Nat.mod_lt _ (by omega))
      have fc := hg.frozen (f % N)
      have hh := hr.hh
      clear hr
      have e1 : IntKind.i64.wrap ((f : Int) + 1) = (f : Int) + 1 := IntWalk.i64_in _ (by omega)
      have e2 : ((f : Int) + 1).tmod (N : Int) = ((f : Int) + 1) % (N : Int) := Int.tmod_eq_emod_of_nonneg (by omega)
      have n0 : ¬ (N = 0) := by omega
      go_wp2_with (go_at_call 21; refine (slot_at b g N f n 0 _ _ (by exact hb) hN hf (by omega) (by omega)).mono ?_; rintro e w' ⟨rfl, q, rfl⟩)
      go_region
      all_goals go_wp2
      go_ret2
      have e3 : ((f : Int) + 1) % (N : Int) = (((f + 1) % N : Nat) : Int) := by rw [Int.natCast_emod]; rfl
      have e4 : (n : Int) - 1 = ((n - 1 : Nat) : Int) := by omega
      obtain ⟨m, rfl⟩ : ∃ m, n = m + 1 := ⟨n - 1, by omega⟩
      rw [e3, e4]
      refine ⟨rfl, ht.trans ((((((Turn.refl b g wr).drewN q).setG _ _).setB _ _).setB _ _).drewN 1), raw'.set (f % N) 0, ?_, ?_, ?_⟩
      · exact ((((hb.drewN q).far (p := ⟨g, _, none⟩) hne _).set_ 1 _).set_ 2 _).drewN 1
      · exact ((((hg.drewN q).setRow _ _).far (p := ⟨b, 1, none⟩) (Ne.symm hne) _).far (p := ⟨b, 2, none⟩) (Ne.symm hne) _).drewN 1
      · refine ((hh.set 0 (by omega) 0).tail).congr fun j hj => ?_
        rw [if_neg (by omega)]
        exact shift_end c i j
    · have hg := hr.hg
      have hh := hr.hh
      have hc := hg.row ((f + k) % N) (by rw [hh.len]; exact Nat.mod_lt _ (by omega))
      rw [hh.hat k (by omega)] at hc
      have hd := hg.row ((f + (k + 1)) % N) (by rw [hh.len]; exact Nat.mod_lt _ (by omega))
      have fd := hg.frozen ((f + (k + 1)) % N)
      clear hr
      have h0 : (0 : Int) < (k : Int) + 1 := by omega
      go_wp2_with (first
        | (go_at_call 21; refine (slot_at b g N f n (k + 1) _ _ (by exact hb) hN hf (by omega) (by omega)).mono ?_; rintro e w' ⟨rfl, q, rfl⟩)
        | (go_at_call 21; refine (slot_at b g N f n k _ _ (by exact hb) hN hf (by omega) (by omega)).mono ?_; rintro e w' ⟨rfl, q, rfl⟩))
      refine ⟨⟨k, rfl, by omega, ht.trans (((Turn.refl b g wr).drewN _).setG _ _), raw'.set ((f + (k + 1)) % N) (shift c i (k + 1) k), ⟨?_, ?_, ?_⟩⟩, by simp [intOf]⟩
      · exact (hb.drewN _).far (p := ⟨g, _, none⟩) hne _
      · exact (hg.drewN _).setRow _ _
      · exact (hh.set (k + 1) (by omega) (shift c i (k + 1) k)).congr fun j _ => shift_step c i k hk j

/-- Of its own make: a ring of nothing. -/
theorem Holds.empty (N : Nat) (h1 : 1 ≤ N) (h2 : N ≤ 1024) : Holds N 0 0 (List.replicate N 0) (fun _ => 0) :=
  ⟨by simp, h2, by omega, by omega, fun j hj => absurd hj (by omega)⟩

theorem info3 : (Try.prog.info? 3).map (fun i => (i.zero, i.size, i.bytes)) = some (some (.int .i64 0), 1, 8) := by kernel_rfl

theorem made_row (N : Nat) : madeCells (Value.int .i64 0).cells (N * 1) = rowOf (List.replicate N 0) := by
  apply Array.ext_getElem?
  intro j
  simp only [madeCells, rowOf, Value.cells, Array.getElem?_map, Array.getElem?_range, List.getElem?_toArray, List.getElem?_map, List.getElem?_replicate]
  by_cases h : j < N
  · rw [if_pos (by omega), if_pos h]
    simp [Nat.mod_one]
  · rw [if_neg (by omega), if_neg h]
    rfl

theorem Blk.new (w : World) (t : TypeId) (cs : Array Value) : Blk (w.alloc (.cells cs t)) w.heap.size t cs := heap_alloc_new w _
theorem Blk.alloc {w : World} {g : Nat} {t : TypeId} {cs : Array Value} (h : Blk w g t cs) (o : Obj) : Blk (w.alloc o) g t cs := (Below.heap_alloc w o g h.lt).trans h
theorem Blk.below {w w' : World} {g B : Nat} {t : TypeId} {cs : Array Value} (h : Blk w g t cs) (hb : Below B w w') (hg : g < B) : Blk w' g t cs := (hb.block g hg).trans h

theorem run_make_ints (N : Nat) (h2 : N ≤ 1024) (W : World) :
    (Instr.makeSlice 37 (.int .i64 (N : Int)) (.int .i64 (N : Int))).run Try.prog W = .ok (.slice (some ⟨W.heap.size, 0, none⟩) N N) (W.alloc (.cells (rowOf (List.replicate N 0)) 3)) := by
  obtain ⟨i0, hi, hz0, hz1, hz2⟩ := info_parts info3
  have h := run_make (P := Try.prog) W 37 3 i0 _ Try.underlying37 hi hz0 .i64 .i64 (N : Int) (N : Int) (by omega) (by omega) (by rw [hz2]; omega) (by omega)
  rw [hz1] at h
  simp only [Int.toNat_natCast] at h
  rw [made_row] at h
  exact h

theorem new_yes (N : Nat) (w : World) (h1 : 1 ≤ N) (h2 : N ≤ 1024) :
    Calls Try.prog 6 #[.int .i64 (N : Nat)] w fun e w' => e = .returned (.pointer (some ⟨w.heap.size + 1, 0, none⟩)) ∧ Below w.heap.size w w' ∧ w'.heap.size = w.heap.size + 2 ∧
      IsRing w' (w.heap.size + 1) w.heap.size N 0 0 (List.replicate N 0) (fun _ => 0) := by
  have ha : ¬ ((N : Int) < 1) := by omega
  have hb : ¬ ((1024 : Int) < (N : Int)) := by omega
  have hmk := run_make_ints N h2
  go_enter Try.func6, Try.ntmps6
  go_wp2
  go_ret
  refine ⟨rfl, ((Below.refl _ w).alloc (Nat.le_refl _) _).alloc (by simp) _, by simp, ?_, (Blk.new w _ _).alloc _, Holds.empty N h1 h2⟩
  have h := Blk.new (w.alloc (.cells (rowOf (List.replicate N 0)) 3)) 53 #[.slice (some ⟨w.heap.size, 0, none⟩) N N, .int .i64 0, .int .i64 0]
  rw [World.size_alloc] at h
  exact h

theorem new_no (N : Int) (w : World) (h : N < 1 ∨ 1024 < N) :
    Calls Try.prog 6 #[.int .i64 N] w fun e w' => e = .returned (.pointer none) ∧ w = w' := by
  rcases h with h | h
  · go_enter Try.func6, Try.ntmps6
    go_wp2
    go_ret
    exact ⟨rfl, rfl⟩
  · have h0 : ¬ (N < 1) := by omega
    go_enter Try.func6, Try.ntmps6
    go_wp2
    go_ret
    exact ⟨rfl, rfl⟩

end Go.Proofs.Ytgcfpehaabajoaa
