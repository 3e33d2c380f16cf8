/-
  A ring by the list of what it holds; the law's 'do' and 'same'.
-/
import Derived.Test.YtgcfpehaabajoaaCopy
namespace Go.Proofs.Ytgcfpehaabajoaa
open Go.RowKit

/-- The ring at b, its row at g, of N slots, holds L. -/
def RingL (w : World) (b g N : Nat) (L : List Int) : Prop := ∃ f m raw c, IsRing w b g N f m raw c ∧ L = upto c m

theorem upto_put (c : Nat → Int) (m : Nat) (x : Int) : upto (fun j => if j = m then x else c j) (m + 1) = upto c m ++ [x] := by
  rw [upto_succ, if_pos rfl]
  congr 1
  unfold upto
  exact List.map_congr_left fun j hj => by rw [if_neg (by have := List.mem_range.1 hj; omega)]
theorem upto_get (c : Nat → Int) (m i : Nat) (h : i < m) : (upto c m)[i]? = some (c i) := by simp [upto, h]
theorem upto_take (c : Nat → Int) (m i : Nat) (h : i < m) : upto (fun j => if j < i then c j else c (j + 1)) (m - 1) = (upto c m).eraseIdx i := by
  apply List.ext_getElem?
  intro j
  rw [List.getElem?_eraseIdx]
  by_cases hj : j < i
  · rw [if_pos hj, upto_get _ _ _ (by omega), upto_get _ _ _ (by omega), if_pos hj]
  · rw [if_neg hj]
    by_cases h2 : j + 1 < m
    · rw [upto_get _ _ _ (by omega), upto_get _ _ _ h2, if_neg hj]
    · rw [List.getElem?_eq_none (by rw [upto_length]; omega), List.getElem?_eq_none (by rw [upto_length]; omega)]

/-- Blocks b and g alone may have turned; blocks may be new. -/
structure Turned (b g : Nat) (w w' : World) : Prop where
  os : w'.os = w.os
  tape : w'.tape = w.tape
  output : w'.output = w.output
  size : w.heap.size ≤ w'.heap.size
  block : ∀ k, k < w.heap.size → k ≠ b → k ≠ g → w'.heap[k]? = w.heap[k]?
theorem Turned.refl (b g : Nat) (w : World) : Turned b g w w := ⟨rfl, rfl, rfl, Nat.le_refl _, fun _ _ _ _ => rfl⟩
theorem Turned.trans {b g : Nat} {w x y : World} (h : Turned b g w x) (k : Turned b g x y) : Turned b g w y :=
  ⟨k.os.trans h.os, k.tape.trans h.tape, k.output.trans h.output, Nat.le_trans h.size k.size, fun i hl hi hj => (k.block i (Nat.lt_of_lt_of_le hl h.size) hi hj).trans (h.block i hl hi hj)⟩
theorem Turn.turned {b g : Nat} {w x : World} (h : Turn b g w x) : Turned b g w x := ⟨h.os, h.tape, h.output, Nat.le_of_eq h.size.symm, fun i _ hi hj => h.block i hi hj⟩
theorem Turned.of_below {b g : Nat} {w x : World} (h : Below w.heap.size w x) : Turned b g w x := ⟨h.os, h.tape, h.output, h.size, fun i hl _ _ => h.block i hl⟩
theorem Turned.below {b g B : Nat} {w x : World} (h : Turned b g w x) (hB : B ≤ w.heap.size) (hb : B ≤ b) (hg : B ≤ g) : Below B w x :=
  ⟨h.os, h.tape, h.output, h.size, fun k hk => h.block k (by omega) (by omega) (by omega)⟩
theorem Turned.blk {b g k : Nat} {t : TypeId} {cs : Array Value} {w x : World} (h : Turned b g w x) (hk : Blk w k t cs) (h1 : k ≠ b) (h2 : k ≠ g) : Blk x k t cs := (h.block k hk.lt h1 h2).trans hk

theorem RingL.lt {w : World} {b g N : Nat} {L : List Int} (h : RingL w b g N L) : b < w.heap.size ∧ g < w.heap.size := by
  obtain ⟨f, m, raw, c, h, _⟩ := h; exact ⟨h.hb.lt, h.hg.lt⟩
theorem RingL.len {w : World} {b g N : Nat} {L : List Int} (h : RingL w b g N L) : L.length ≤ N ∧ N ≤ 1024 := by
  obtain ⟨f, m, raw, c, h, rfl⟩ := h; rw [upto_length]; exact ⟨h.hh.hn, h.hh.hN⟩
theorem RingL.below {w w' : World} {b g N B : Nat} {L : List Int} (h : RingL w b g N L) (k : Below B w w') (hb : b < B) (hg : g < B) : RingL w' b g N L := by
  obtain ⟨f, m, raw, c, h, e⟩ := h; exact ⟨f, m, raw, c, ⟨h.hb.below k hb, h.hg.below k hg, h.hh⟩, e⟩
theorem RingL.grown {w w' : World} {b g N : Nat} {L : List Int} (h : RingL w b g N L) (k : Below w.heap.size w w') : RingL w' b g N L := h.below k h.lt.1 h.lt.2
theorem RingL.turned {w w' : World} {b g b' g' N : Nat} {L : List Int} (h : RingL w b g N L) (k : Turned b' g' w w') (h1 : b ≠ b') (h2 : b ≠ g') (h3 : g ≠ b') (h4 : g ≠ g') : RingL w' b g N L := by
  obtain ⟨f, m, raw, c, h, e⟩ := h; exact ⟨f, m, raw, c, ⟨k.blk h.hb h1 h2, k.blk h.hg h3 h4, h.hh⟩, e⟩

/-- An act on what a ring of N slots holds: put, take. -/
def act (N : Nat) (L : List Int) (a : Int × Int × Int) : List Int :=
  if a.1 = 0 then (if L.length < N then L ++ [a.2.2] else L)
  else if a.1 = 1 then (if 0 ≤ a.2.1 ∧ a.2.1 < L.length then L.eraseIdx a.2.1.toNat else L)
  else L

theorem putL (b g N : Nat) (L : List Int) (x : Int) (w : World) (h : RingL w b g N L) :
    Calls Try.prog 8 #[.pointer (some ⟨b, 0, none⟩), .int .i64 x] w fun e w' => e = .returned (.int .i64 (if L.length < N then 0 else 6)) ∧ Turned b g w w' ∧ RingL w' b g N (if L.length < N then L ++ [x] else L) := by
  obtain ⟨f, m, raw, c, h, rfl⟩ := h
  rw [upto_length]
  have := h.hh.hn
  by_cases hm : m < N
  · rw [if_pos hm, if_pos hm]
    refine (put_room b g N f m x raw c w h hm).mono ?_
    rintro e w' ⟨rfl, ht, raw', hr⟩
    exact ⟨rfl, ht.turned, f, m + 1, raw', _, hr, (upto_put c m x).symm⟩
  · rw [if_neg hm, if_neg hm]
    refine (put_full b g N f m x w h.hb (by omega)).mono ?_
    rintro e w' ⟨rfl, q, rfl⟩
    exact ⟨rfl, ⟨rfl, rfl, rfl, Nat.le_refl _, fun _ _ _ _ => rfl⟩, f, m, raw, c, h.drewN q, rfl⟩

/-- The i-th of L, if there is one. -/
def at_ (L : List Int) (i : Int) : Int := if 0 ≤ i ∧ i < L.length then L.getD i.toNat 0 else 0

theorem takeL (b g N : Nat) (L : List Int) (i : Int) (w : World) (h : RingL w b g N L) :
    Calls Try.prog 9 #[.pointer (some ⟨b, 0, none⟩), .int .i64 i] w fun e w' => e = .returned (.tuple #[.int .i64 (at_ L i), .bool (decide (0 ≤ i ∧ i < L.length))]) ∧ Turned b g w w' ∧
      RingL w' b g N (if 0 ≤ i ∧ i < L.length then L.eraseIdx i.toNat else L) := by
  obtain ⟨f, m, raw, c, h, rfl⟩ := h
  unfold at_
  rw [upto_length]
  by_cases hi : 0 ≤ i ∧ i < m
  · rw [if_pos hi, if_pos hi, decide_eq_true hi]
    obtain ⟨k, rfl⟩ : ∃ k : Nat, i = (k : Int) := ⟨i.toNat, by omega⟩
    have hk : k < m := by omega
    refine (take_yes b g N f m k raw c w h hk).mono ?_
    rintro e w' ⟨rfl, ht, raw', hr⟩
    rw [Int.toNat_natCast, List.getD_eq_getElem?_getD, upto_get c m k hk]
    exact ⟨rfl, ht.turned, _, m - 1, raw', _, hr, (upto_take c m k hk).symm⟩
  · rw [if_neg hi, if_neg hi, decide_eq_false hi]
    refine (take_no b g N f m i w h.hb (by omega)).mono ?_
    rintro e w' ⟨rfl, rfl⟩
    exact ⟨rfl, Turned.refl _ _ _, f, m, raw, c, h, rfl⟩

/-- The acts that came in. -/
def ActsAt (w : World) (a : Option Addr) (len : Nat) (F : Nat → Int × Int × Int) : Prop :=
  ∀ i, i < len → ∃ b o, a = some ⟨b, o, none⟩ ∧ b < w.heap.size ∧ w.cell? ⟨b, o + i * 3, none⟩ = some (.int .i64 (F i).1) ∧
    w.cell? ⟨b, o + i * 3 + 1, none⟩ = some (.int .i64 (F i).2.1) ∧ w.cell? ⟨b, o + i * 3 + 2, none⟩ = some (.int .i64 (F i).2.2)
theorem ActsAt.below {w w' : World} {a : Option Addr} {len : Nat} {F : Nat → Int × Int × Int} (h : ActsAt w a len F) (hb : Below w.heap.size w w') : ActsAt w' a len F := by
  intro i hi
  obtain ⟨b, o, e, hlt, h0, h1, h2⟩ := h i hi
  exact ⟨b, o, e, Nat.lt_of_lt_of_le hlt hb.size, (hb.cell (p := ⟨b, _, none⟩) hlt).trans h0, (hb.cell (p := ⟨b, _, none⟩) hlt).trans h1, (hb.cell (p := ⟨b, _, none⟩) hlt).trans h2⟩

def acts (N : Nat) (L : List Int) (F : Nat → Int × Int × Int) (k : Nat) : List Int := (upto F k).foldl (act N) L
theorem acts_succ (N : Nat) (L : List Int) (F : Nat → Int × Int × Int) (k : Nat) : acts N L F (k + 1) = act N (acts N L F k) (F k) := by
  unfold acts; rw [upto_succ, List.foldl_append]; rfl

set_option maxRecDepth 100000 in
theorem do_any (b g N : Nat) (L : List Int) (a : Option Addr) (len cap : Nat) (F : Nat → Int × Int × Int) (lo : Nat) (w : World) (h : RingL w b g N L) (hb : lo ≤ b) (hg : lo ≤ g) (hlo : lo ≤ w.heap.size)
    (ha : ∀ w', Below lo w w' → ∀ i, i < len → ∃ b o, a = some ⟨b, o, none⟩ ∧ w'.cell? ⟨b, o + i * 3, none⟩ = some (.int .i64 (F i).1) ∧
    w'.cell? ⟨b, o + i * 3 + 1, none⟩ = some (.int .i64 (F i).2.1) ∧ w'.cell? ⟨b, o + i * 3 + 2, none⟩ = some (.int .i64 (F i).2.2)) (hlen : len ≤ 80) :
    Calls Try.prog 11 #[.pointer (some ⟨b, 0, none⟩), .slice a len cap] w fun e w' => (∃ v, e = .returned v) ∧ Turned b g w w' ∧ RingL w' b g N (acts N L F len) := by
  go_enter Try.func11, Try.ntmps11
  go_wp2_with fail
  go_loopw [5, 8] (fun _ i wr => ∃ k : Nat, i = .int .i64 (k : Nat) ∧ k ≤ len ∧ Turned b g w wr ∧ RingL wr b g N (acts N L F k)) (fun _ i _ => len - (intOf i).toNat)
  case atStart => exact ⟨0, rfl, by omega, Turned.refl _ _ _, h⟩
  case round =>
    obtain ⟨k, rfl, hk, ht, hr⟩ := hrel
    by_cases hlt : k < len
    · obtain ⟨ba, o, rfl, h0, h1, h2⟩ := ha wr (ht.below hlo hb hg) k hlt
      generalize hF : F k = t at h0 h1 h2
      obtain ⟨K, I, X⟩ := t
      simp only at h0 h1 h2
      clear ha h
      have hal : Below wr.heap.size wr (wr.alloc (.cells #[.int .i64 K, .int .i64 I, .int .i64 X] 35)) := (Below.refl _ wr).alloc (Nat.le_refl _) _
      have hra := hr.grown hal
      have hta : Turned b g w (wr.alloc (.cells #[.int .i64 K, .int .i64 I, .int .i64 X] 35)) := ht.trans (Turned.of_below hal)
      clear hal
      by_cases e0 : K = 0
      · subst e0
        go_wp2_with fail
        refine (putL _ _ _ _ X _ hra).mono ?_
        rintro e w3 ⟨rfl, ht3, hr3⟩
        go_wp2
        go_roundw
        case rel => exact ⟨k + 1, by go_num, by omega, hta.trans ht3, by rw [acts_succ, hF]; simpa [act] using hr3⟩
        case measure => simp [intOf]; omega
      · by_cases e1 : K = 1
        · subst e1
          go_wp2_with fail
          refine (takeL _ _ _ _ I _ hra).mono ?_
          rintro e w3 ⟨rfl, ht3, hr3⟩
          go_wp2
          go_roundw
          case rel => exact ⟨k + 1, by go_num, by omega, hta.trans ht3, by rw [acts_succ, hF]; simpa [act] using hr3⟩
          case measure => simp [intOf]; omega
        · go_wp2
          go_roundw
          case rel => exact ⟨k + 1, by go_num, by omega, hta, by rw [acts_succ, hF]; simpa [act, e0, e1] using hra⟩
          case measure => simp [intOf]; omega
    · obtain rfl : k = len := by omega
      go_wp2
      go_end0
      exact ⟨⟨_, rfl⟩, ht, hr⟩

/-- A slice of ints whose row lies from lo on and below hi. -/
def IntsAt (lo hi : Nat) (w : World) (v : Value) (xs : List Int) : Prop :=
  ∃ a cap, v = .slice a xs.length cap ∧ ∀ i, i < xs.length → ∃ g, a = some ⟨g, 0, none⟩ ∧ lo ≤ g ∧ g < hi ∧ w.cell? ⟨g, i, none⟩ = some (.int .i64 (xs.getD i 0))
theorem IntsAt.of_own {w : World} {base : Nat} {v : Value} {xs : List Int} (h : w.ownsRow base 3 1 v xs.length (xs.map (Value.int .i64))) : IntsAt base w.heap.size w v xs := by
  rcases h.2 with ⟨rfl, hn⟩ | ⟨g, cap, cur, rfl, hb, hg, hnc, hcm, hcs, htk⟩
  · refine ⟨none, 0, by rw [hn], fun i hi => absurd hi (by omega)⟩
  · refine ⟨_, cap, rfl, fun i hi => ⟨g, rfl, hb, (Array.getElem?_eq_some_iff.1 hg).1, ?_⟩⟩
    have hc := h.cells (g := g) rfl i (.int .i64 (xs.getD i 0)) (by simp [hi])
    have hadd : (⟨g, 0, none⟩ : Addr).add i = ⟨g, 0 + i, none⟩ := by
      unfold Addr.add
      split
      · rename_i h; subst h; rfl
      · rfl
    rw [hadd, Nat.zero_add] at hc
    exact hc
theorem IntsAt.keep {lo hi : Nat} {w w' : World} {v : Value} {xs : List Int} (h : IntsAt lo hi w v xs) (k : ∀ g, lo ≤ g → g < hi → w'.heap[g]? = w.heap[g]?) : IntsAt lo hi w' v xs := by
  obtain ⟨a, cap, rfl, h⟩ := h
  refine ⟨a, cap, rfl, fun i hi' => ?_⟩
  obtain ⟨g, rfl, h1, h2, hc⟩ := h i hi'
  refine ⟨g, rfl, h1, h2, ?_⟩
  rw [← hc]
  simp only [World.cell?, k g h1 h2]

set_option maxRecDepth 100000 in
theorem same_any (lo1 hi1 lo2 hi2 : Nat) (u v : Value) (xs ys : List Int) (w : World) (hu : IntsAt lo1 hi1 w u xs) (hv : IntsAt lo2 hi2 w v ys) (h1024 : xs.length ≤ 1024) :
    Calls Try.prog 16 #[u, v] w fun e w' => e = .returned (.bool (decide (xs = ys))) ∧ Below w.heap.size w w' := by
  obtain ⟨a, ca, rfl, hu⟩ := hu
  obtain ⟨b, cb, rfl, hv⟩ := hv
  by_cases hl : xs.length = ys.length
  · have hl' : ((xs.length : Int) == (ys.length : Int)) = true := by simp [hl]
    go_enter Try.func16, Try.ntmps16
    go_wp2_with fail
    go_loopw [5, 13] (fun _ i wr => ∃ k : Nat, i = .int .i64 (k : Nat) ∧ k ≤ xs.length ∧ Below w.heap.size w wr ∧ ∀ j, j < k → xs.getD j 0 = ys.getD j 0) (fun _ i _ => xs.length - (intOf i).toNat)
    case atStart => exact ⟨0, rfl, by omega, Below.refl _ _, fun j hj => absurd hj (by omega)⟩
    case round =>
      obtain ⟨k, rfl, hk, hb, hj⟩ := hrel
      by_cases hlt : k < xs.length
      · obtain ⟨g1, rfl, _, _, hc1⟩ := hu k hlt
        obtain ⟨g2, rfl, _, _, hc2⟩ := hv k (by omega)
        have hd1 := (hb.cell (p := ⟨g1, k, none⟩) (World.block_lt_of_cell? _ _ hc1)).trans hc1
        have hd2 := (hb.cell (p := ⟨g2, k, none⟩) (World.block_lt_of_cell? _ _ hc2)).trans hc2
        have hlt2 : k < ys.length := by omega
        generalize hX : xs.getD k 0 = X at hd1
        generalize hY : ys.getD k 0 = Y at hd2
        clear hu hv hc1 hc2
        by_cases e : X = Y
        · have e' : (X == Y) = true := by simp [e]
          go_wp2_with fail
          go_quiet (fail)
          go_wp2
          go_roundw
          case rel => exact ⟨k + 1, by go_num, by omega, below_drewN hb _, fun j hj' => by
            by_cases e2 : j = k
            · rw [e2, hX, hY, e]
            · exact hj j (by omega)⟩
          case measure => simp [intOf]; omega
        · have e' : (X == Y) = false := by simp [e]
          have hne : ¬ xs = ys := fun h => e (by rw [← hX, ← hY, h])
          go_wp2_with fail
          go_quiet (fail)
          go_wp2
          go_ret
          exact ⟨ret_bool (decide_eq_false hne).symm, below_drewN hb _⟩
      · obtain rfl : k = xs.length := by omega
        have he : xs = ys := by
          apply List.ext_getElem hl
          intro i h1 h2
          have := hj i h1
          simpa [h1, h2] using this
        clear hu hv hj
        go_wp2
        go_ret
        exact ⟨ret_bool (decide_eq_true he).symm, hb⟩
  · have hne : ¬ xs = ys := fun h => hl (by rw [h])
    rw [decide_eq_false hne]
    have hl' : ((xs.length : Int) == (ys.length : Int)) = false := by simp; omega
    go_enter Try.func16, Try.ntmps16
    go_wp2
    go_ret
    exact ⟨rfl, Below.refl _ _⟩

end Go.Proofs.Ytgcfpehaabajoaa
