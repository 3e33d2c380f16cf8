/-
  tableOf, by a contract.
-/
import Derived.Test.YthceefhnmjjddaaBit
import Derived.Test.YthceefhnmjjddaaAppend
import Derived.Outline
namespace Go.Proofs.Ythceefhnmjjddaa
open Go.RowKit

/-- The slice at A holds the numbers L. -/
def NumsAt (w : World) (A : Option Addr) (L : List Nat) : Prop :=
  L = [] ∨ ∃ b o, A = some ⟨b, o, none⟩ ∧ b < w.heap.size ∧ ∀ i, i < L.length → w.cell? ⟨b, o + i, none⟩ = some (.int .i64 (L.getD i 0 : Nat))

/-- A table's cells: how many of each length, and the signs. -/
def tabCells (c : Nat → Nat) (v : Value) : Array Value :=
  #[.int .i64 (c 0 : Nat), .int .i64 (c 1 : Nat), .int .i64 (c 2 : Nat), .int .i64 (c 3 : Nat), .int .i64 (c 4 : Nat), .int .i64 (c 5 : Nat), .int .i64 (c 6 : Nat), .int .i64 (c 7 : Nat),
    .int .i64 (c 8 : Nat), .int .i64 (c 9 : Nat), .int .i64 (c 10 : Nat), .int .i64 (c 11 : Nat), .int .i64 (c 12 : Nat), .int .i64 (c 13 : Nat), .int .i64 (c 14 : Nat), .int .i64 (c 15 : Nat), v]
theorem tab_get (c : Nat → Nat) (v : Value) (i : Nat) (h : i < 16) : (tabCells c v)[i]? = some (.int .i64 (c i : Nat)) := by
  rcases i with _ | _ | _ | _ | _ | _ | _ | _ | _ | _ | _ | _ | _ | _ | _ | _ | i <;> first | rfl | omega
theorem tab_get16 (c : Nat → Nat) (v : Value) : (tabCells c v)[16]? = some v := rfl

theorem tab_set (c : Nat → Nat) (v : Value) (i x : Nat) (h : i < 16) : (tabCells c v).setIfInBounds i (.int .i64 (x : Nat)) = tabCells (fun n => if n = i then x else c n) v := by
  rcases i with _ | _ | _ | _ | _ | _ | _ | _ | _ | _ | _ | _ | _ | _ | _ | _ | i <;> first | rfl | omega
theorem tab_set16 (c : Nat → Nat) (v u : Value) : (tabCells c v).setIfInBounds 16 u = tabCells c u := rfl
theorem count_take (L : List Nat) (k : Nat) (h : k < L.length) : (fun n => (L.take (k + 1)).count n) = fun n => if n = L.getD k 0 then (L.take k).count (L.getD k 0) + 1 else (L.take k).count n := by
  funext n
  rw [List.take_succ_eq_append_getElem h, List.count_append, List.getD_eq_getElem?_getD, List.getElem?_eq_getElem h]
  simp only [Option.getD_some]
  split
  · rename_i e; subst e; simp
  · rename_i e; simp [Ne.symm e]

theorem NumsAt.below {w w' : World} {A : Option Addr} {L : List Nat} (h : NumsAt w A L) (hb : Below w.heap.size w w') : NumsAt w' A L := by
  rcases h with h | ⟨b, o, e, hlt, hc⟩
  · exact .inl h
  · exact .inr ⟨b, o, e, Nat.lt_of_lt_of_le hlt hb.size, fun i hi => (hb.cell (p := ⟨b, o + i, none⟩) hlt).trans (hc i hi)⟩

theorem info3 : (Try.prog.info? 3).map (fun i => (i.zero, i.size, i.bytes)) = some (some (.int .i64 0), 1, 8) := by kernel_rfl

theorem below_row {B g : Nat} {w0 w : World} (hb : Below B w0 w) (hg : B ≤ g) (cs : Array Value) : Below B w0 (w.setRow g cs) :=
  ⟨hb.os, hb.tape, hb.output, by simpa using hb.size, fun k hk => (setRow_other w g k cs (by omega)).trans (hb.block k hk)⟩
theorem ti55 : (Try.prog.info? 55).map (·.size) = some 17 := by kernel_rfl
theorem tab_one (c : Nat → Nat) {v : Value} (hv : v.oneCell' = true) : (tabCells c v).all (·.oneCell') = true := by
  have h : ∀ n, (Value.int .i64 n).oneCell' = true := fun _ => rfl
  simp [tabCells, h, hv]
theorem results_tab {tmps : Array Value} {w : World} {g : Nat} {c : Nat → Nat} {v b : Value} (h2 : tmps.getD 2 undef = .pointer (some ⟨g, 0, none⟩)) (h3 : tmps.getD 3 undef = b) (hb : Blk w g 55 (tabCells c v)) :
    (results Try.f30 tmps).run Try.prog w = .ok (.tuple #[.agg (tabCells c v), b]) w := by
  have hl := run_loadVar_row (P := Try.prog) w g 55 55 (tabCells c v) (0, 0) _ hb Try.underlying55 rfl ti55
  have h2' : tmps[2]?.getD undef = .pointer (some ⟨g, 0, none⟩) := by simpa using h2
  have h3' : tmps[3]?.getD undef = b := by simpa using h3
  simp [results, h2', h3', asAddr, hl]

theorem Blk.tab {w : World} {g : Nat} {c : Nat → Nat} {v : Value} (h : Blk w g 55 (tabCells c v)) :
    w.cell? ⟨g, 0, none⟩ = some (.int .i64 (c 0 : Nat)) ∧ w.cell? ⟨g, 1, none⟩ = some (.int .i64 (c 1 : Nat)) ∧ w.cell? ⟨g, 2, none⟩ = some (.int .i64 (c 2 : Nat)) ∧ w.cell? ⟨g, 3, none⟩ = some (.int .i64 (c 3 : Nat)) ∧
    w.cell? ⟨g, 4, none⟩ = some (.int .i64 (c 4 : Nat)) ∧ w.cell? ⟨g, 5, none⟩ = some (.int .i64 (c 5 : Nat)) ∧ w.cell? ⟨g, 6, none⟩ = some (.int .i64 (c 6 : Nat)) ∧ w.cell? ⟨g, 7, none⟩ = some (.int .i64 (c 7 : Nat)) ∧
    w.cell? ⟨g, 8, none⟩ = some (.int .i64 (c 8 : Nat)) ∧ w.cell? ⟨g, 9, none⟩ = some (.int .i64 (c 9 : Nat)) ∧ w.cell? ⟨g, 10, none⟩ = some (.int .i64 (c 10 : Nat)) ∧ w.cell? ⟨g, 11, none⟩ = some (.int .i64 (c 11 : Nat)) ∧
    w.cell? ⟨g, 12, none⟩ = some (.int .i64 (c 12 : Nat)) ∧ w.cell? ⟨g, 13, none⟩ = some (.int .i64 (c 13 : Nat)) ∧ w.cell? ⟨g, 14, none⟩ = some (.int .i64 (c 14 : Nat)) ∧ w.cell? ⟨g, 15, none⟩ = some (.int .i64 (c 15 : Nat)) ∧
    w.cell? ⟨g, 16, none⟩ = some v :=
  ⟨h.cell 0, h.cell 1, h.cell 2, h.cell 3, h.cell 4, h.cell 5, h.cell 6, h.cell 7, h.cell 8, h.cell 9, h.cell 10, h.cell 11, h.cell 12, h.cell 13, h.cell 14, h.cell 15, h.cell 16⟩

theorem idxF_take (L : List Nat) (n : Nat) : ∀ i k, k < L.length → idxF (L.take (k + 1)) i n = idxF (L.take k) i n ++ if L.getD k 0 = n then [i + k] else [] := by
  induction L with
  | nil => intro i k h; simp at h
  | cons m L ih =>
    intro i k h
    rcases k with _ | k
    · by_cases hm : m = n <;> simp [idxF, hm]
    · have := ih (i + 1) k (by simpa using h)
      rw [List.take_succ_cons, List.take_succ_cons]
      unfold idxF
      rw [this]
      rw [show i + 1 + k = i + (k + 1) by omega]
      by_cases hm : m = n <;> simp [hm]
def numsV (L : List Nat) : List Value := L.map fun n => .int .i64 (n : Nat)
theorem numsV_length (L : List Nat) : (numsV L).length = L.length := by simp [numsV]
theorem numsV_append (a b : List Nat) : numsV (a ++ b) = numsV a ++ numsV b := by simp [numsV]
theorem NumsAt.of_own {w : World} {base : Nat} {v : Value} {l : List Nat} (h : w.ownsRow base 3 1 v l.length (numsV l)) : ∃ A c, v = .slice A l.length c ∧ l.length ≤ c ∧ NumsAt w A l ∧ (∀ a, A = some a → base ≤ a.block ∧ a.block < w.heap.size) := by
  rcases h.2 with ⟨rfl, hn⟩ | ⟨g, cap, cur, rfl, hb, hg, hnc, hcm, hcs, htk⟩
  · have : l = [] := List.eq_nil_of_length_eq_zero hn
    subst this
    exact ⟨none, 0, rfl, Nat.le_refl _, .inl rfl, fun a h => by cases h⟩
  · refine ⟨_, cap, rfl, hnc, ?_, fun a h => by injection h with h; subst h; exact ⟨hb, (Array.getElem?_eq_some_iff.1 hg).1⟩⟩
    refine .inr ⟨g, 0, rfl, (Array.getElem?_eq_some_iff.1 hg).1, fun i hi => ?_⟩
    have hv : (numsV l)[i]? = some (.int .i64 (l.getD i 0 : Nat)) := by simp [numsV, hi]
    have hc := h.cells (g := g) rfl i _ hv
    have hadd : (⟨g, 0, none⟩ : Addr).add i = ⟨g, 0 + i, none⟩ := by
      unfold Addr.add
      split
      · rename_i h; subst h; rfl
      · rfl
    rw [hadd] at hc
    exact hc

/-- What tableOf gives. -/
def Table (L : List Nat) (w : World) (e : Ending) (w' : World) : Prop :=
  ∃ v, e = .returned (.tuple #[.agg (tabCells (fun n => L.count n) v), .bool (right L)]) ∧ (∃ A n c, v = .slice A n c) ∧ (right L = true → w'.ownsRow w.heap.size 3 1 v (sgs L 15).length (numsV (sgs L 15))) ∧ Below w.heap.size w w'
theorem table_no {L : List Nat} {w w' : World} (hr : right L = false) (hb : Below w.heap.size w w') : Table L w (.returned (.tuple #[.agg (tabCells (fun n => L.count n) (.slice none 0 0)), .bool false])) w' :=
  ⟨_, by rw [hr], ⟨_, _, _, rfl⟩, (fun h => by rw [hr] at h; cases h), hb⟩
theorem table_yes {L : List Nat} {w w' : World} {v : Value} (hr : right L = true) (hown : w'.ownsRow w.heap.size 3 1 v (sgs L 15).length (numsV (sgs L 15))) (hb : Below w.heap.size w w') : Table L w (.returned (.tuple #[.agg (tabCells (fun n => L.count n) v), .bool true])) w' := by
  refine ⟨v, by rw [hr], ?_, fun _ => hown, hb⟩
  rcases hown.2 with ⟨rfl, _⟩ | ⟨g, cap, cur, rfl, _⟩ <;> exact ⟨_, _, _, rfl⟩

theorem fits_le {L : List Nat} {n : Nat} (h : fits L n = false) (hn : n ≤ 15) : right L = false := by
  have : ∀ m, fits L (n + m) = false := by
    intro m
    induction m with
    | zero => exact h
    | succ m ih => show (fits L (n + m) && _) = false; rw [ih]; rfl
  have h15 := this (15 - n)
  rw [show n + (15 - n) = 15 by omega] at h15
  unfold right
  rw [h15]; rfl
/-- The five ways behind the second loop. -/
theorem right_ways {L : List Nat} {x u : Nat} (hf : fits L 15 = true) (hx : x + beh L 15 = 2 ^ 15) (hu : L.length = L.count 0 + u) :
    (x = 0 ∧ right L = true) ∨ (0 < x ∧ u = 0 ∧ right L = true) ∨ (0 < x ∧ u = 1 ∧ L.count 1 = 1 ∧ right L = true) ∨ (0 < x ∧ 0 < u ∧ u ≠ 1 ∧ right L = false) ∨ (0 < x ∧ u = 1 ∧ L.count 1 ≠ 1 ∧ right L = false) := by
  have hus : used L = u := by unfold used; omega
  unfold right
  rw [hf, hus]
  by_cases h1 : x = 0
  · left; exact ⟨h1, by simp; omega⟩
  · have h2 : ¬ beh L 15 = 32768 := by omega
    by_cases h3 : u = 0
    · right; left; exact ⟨by omega, h3, by simp [h3]⟩
    · by_cases h4 : u = 1
      · by_cases h5 : L.count 1 = 1
        · right; right; left; exact ⟨by omega, h4, h5, by simp [h4, h5]⟩
        · right; right; right; right; exact ⟨by omega, h4, h5, by simp [h2, h4, h5]⟩
      · right; right; right; left; exact ⟨by omega, by omega, h4, by simp [h2, h3, h4]⟩

theorem own_slice {w : World} {base : Nat} {e : TypeId} {size : Nat} {v : Value} {n : Nat} {xs : List Value} (hown : w.ownsRow base e size v n xs) : ∃ A c, v = .slice A n c := by
  rcases hown.2 with ⟨rfl, rfl⟩ | ⟨g, cap, cur, rfl, _⟩
  · exact ⟨_, _, rfl⟩
  · exact ⟨_, _, rfl⟩
theorem own_one {w : World} {base : Nat} {e : TypeId} {size : Nat} {v : Value} {n : Nat} {xs : List Value} (hown : w.ownsRow base e size v n xs) : v.oneCell' = true := by
  rcases hown.2 with ⟨rfl, _⟩ | ⟨g, cap, cur, rfl, _⟩ <;> rfl
theorem sgs_le (L : List Nat) (n : Nat) : (sgs L n).length ≤ L.length := by
  have : ∀ n, (sgs L n).length + (L.filter (fun x => decide (x = 0) || decide (n < x))).length ≤ L.length := by
    intro n
    induction n with
    | zero => simp [sgs]; exact List.length_filter_le _ _
    | succ n ih =>
      show (sgs L n ++ idxs L (n + 1)).length + _ ≤ _
      rw [List.length_append, idxs_length, List.count_eq_countP, List.countP_eq_length_filter]
      have h2 : (L.filter (· == n + 1)).length + (L.filter (fun x => decide (x = 0) || decide (n + 1 < x))).length ≤ (L.filter (fun x => decide (x = 0) || decide (n < x))).length := by
        clear ih
        induction L with
        | nil => simp
        | cons m L ih =>
          simp only [List.filter_cons]
          by_cases h1 : m = n + 1
          · subst h1; simp; omega
          · by_cases h2 : m = 0 ∨ n < m
            · by_cases h3 : m = 0 ∨ n + 1 < m
              · simp [h1, h2, h3]; omega
              · exfalso; omega
            · have h3 : ¬ (m = 0 ∨ n + 1 < m) := by omega
              simp [h1, h2, h3]; simpa using ih
      omega
  have := this n
  omega

set_option maxHeartbeats 4000000 in
set_option maxRecDepth 100000 in
theorem table_any (A : Option Addr) (cap : Nat) (L : List Nat) (w : World) (h : NumsAt w A L) (hL : L.length ≤ 65536) (h15 : ∀ x ∈ L, x ≤ 15) :
    Calls Try.prog 30 #[.slice A L.length cap] w (Table L w) := by
  have H15 := Lib.hid h15
  clear h15
  obtain ⟨i0, hi, hz0, hz1, hz2⟩ := info_parts info3
  go_enter Try.func30, Try.ntmps30
  go_wp2
  go_loopw [15] (fun i wr => ∃ k : Nat, k ≤ L.length ∧ i = .int .i64 (k : Nat) ∧ Blk wr (w.heap.size + 1) 55 (tabCells (fun n => (L.take k).count n) (.slice none 0 0)) ∧
     Blk wr w.heap.size 55 (tabCells (fun _ => 0) (.slice none 0 0)) ∧ Below w.heap.size w wr) (fun i _ => L.length - (intOf i).toNat)
  case atStart => exact ⟨0, Nat.zero_le _, rfl, Blk.new_ _ _ (by simp), (Blk.new w _ _).alloc _, ((Below.refl _ w).alloc (Nat.le_refl _) _).alloc (by simp) _⟩
  case round =>
    obtain ⟨k, hk, rfl, hg, hr0, hbel⟩ := hrel
    by_cases hlt : k < L.length
    · obtain ⟨b, o, rfl, hb, hc⟩ : ∃ b o, A = some ⟨b, o, none⟩ ∧ b < w.heap.size ∧ ∀ i, i < L.length → wr.cell? ⟨b, o + i, none⟩ = some (.int .i64 (L.getD i 0 : Nat)) := by
        rcases h with rfl | ⟨b, o, e, hb, hc⟩
        · simp at hlt
        · exact ⟨b, o, e, hb, fun i hi => (hbel.cell (p := ⟨b, o + i, none⟩) hb).trans (hc i hi)⟩
      have hck := hc k hlt
      have hx : L.getD k 0 ≤ 15 := H15.out _ (by rw [List.getD_eq_getElem?_getD, List.getElem?_eq_getElem hlt]; simp)
      have hct : (L.take k).count (L.getD k 0) ≤ 65536 := Nat.le_trans List.count_le_length (by simp; omega)
      have hcell := (hg.cell (L.getD k 0)).trans (tab_get (fun n => (L.take k).count n) _ _ (by omega))
      have hfr := hg.frozen (L.getD k 0)
      have hset := hg.set_ (L.getD k 0) (.int .i64 (((L.take k).count (L.getD k 0) + 1 : Nat)))
      rw [tab_set _ _ _ _ (by omega), ← count_take L k hlt] at hset
      generalize L.getD k 0 = x at *
      generalize (L.take k).count x = cx at *
      clear hc
      go_wp2
      go_roundw
      case rel => exact ⟨k + 1, by omega, by go_num, by exact hset, hr0.far (by simp) _, hbel.setCell (by simp) _⟩
      case measure => simp [intOf]; omega
    · obtain rfl : k = L.length := by omega
      rw [List.take_length] at hg
      go_wp2
      go_loop [7, 8] (fun l n => ∃ (j x : Nat), j ≤ 15 ∧ l = .int .i64 (x : Nat) ∧ n = .int .i64 ((j : Int) + 1) ∧ x + beh L j = 2 ^ j ∧ fits L j = true) (fun _ n => 16 - (intOf n).toNat)
      case atStart => exact ⟨0, 1, by omega, rfl, rfl, rfl, rfl⟩
      case round =>
        obtain ⟨j, x, hj, rfl, rfl, hx, hfit⟩ := hrel
        have hpow : 2 ^ j ≤ 2 ^ 15 := Nat.pow_le_pow_right (by omega) hj
        by_cases hlt : j < 15
        · have hcl := L.count_le_length (a := j + 1)
          have hcell := (hg.cell (j + 1)).trans (tab_get (fun n => L.count n) _ _ (by omega))
          have hbs : beh L (j + 1) = 2 * beh L j + L.count (j + 1) := rfl
          have hfs : fits L (j + 1) = (fits L j && decide (beh L (j + 1) ≤ 2 ^ (j + 1))) := rfl
          rw [Nat.pow_succ] at hfs
          generalize L.count (j + 1) = cx at *
          have hxl : x ≤ 2 ^ 15 := by omega
          by_cases hneg : 2 * x < cx
          · have hneg' : 2 * (x : Int) - (cx : Int) < 0 := by omega
            have hbad : right L = false := fits_le (n := j + 1) (by rw [hfs, hfit]; simp; omega) (by omega)
            have HB := Lib.hid hbad
            clear hx hbs hfs hfit hbad
            go_wp2_with (first | (refine wpList_load_row rfl 55 (.tmp 4) rfl (w.heap.size + 1) rfl 55 _ (0, 0) _ hg Try.underlying55 rfl ti55 ?_) | (refine wpList_store_row rfl 55 (.tmp 2) (.tmp 40) rfl w.heap.size (tabCells (fun n => L.count n) (.slice none 0 0)) rfl rfl 55 _ hr0 ti55 rfl (tab_one _ rfl) ?_))
            exact bodyPost_ret_by (results_tab rfl rfl (hr0.row_ _)) rfl (table_no HB.out (below_row hbel (Nat.le_refl _) _))
          · have hneg' : ¬ (2 * (x : Int) - (cx : Int) < 0) := by omega
            have HX := Lib.hid hx
            have HB := Lib.hid hbs
            have HF := Lib.hid hfs
            have HF2 := Lib.hid hfit
            clear hx hbs hfs hfit
            go_wp2
            go_round
            case rel => exact ⟨j + 1, 2 * x - cx, by omega, by go_num, by go_num, by have := HX.out; have := HB.out; rw [Nat.pow_succ]; omega, by rw [HF.out, HF2.out]; have := HX.out; have := HB.out; simp; omega⟩
            case measure => simp [intOf]; omega
        · obtain rfl : j = 15 := by omega
          have h0 := (hg.cell 0).trans (tab_get (fun n => L.count n) _ _ (by omega))
          have h1 := (hg.cell 1).trans (tab_get (fun n => L.count n) _ _ (by omega))
          have hcl := L.count_le_length (a := 0)
          have hcl1 := L.count_le_length (a := 1)
          obtain ⟨u, hu⟩ : ∃ u, L.length = L.count 0 + u := ⟨L.length - L.count 0, by omega⟩
          have hways := right_ways hfit hx hu
          have hsub : ((L.length : Nat) : Int) - ((L.count 0 : Nat) : Int) = (u : Int) := by omega
          have hul : u ≤ 65536 := by omega
          have hxl : x ≤ 2 ^ 15 := by omega
          clear hu hx hfit
          rcases hways with ⟨hx0, hR⟩ | ⟨hx0, rfl, hR⟩ | ⟨hx0, rfl, hc1, hR⟩ | ⟨hx0, hu0, hu1, hR⟩ | ⟨hx0, rfl, hc1, hR⟩
          rotate_left 3
          · have HR := Lib.hid hR
            have hx0' : (0 : Int) < (x : Int) := by omega
            have hu0' : (0 : Int) < (u : Int) := by omega
            have hu1' : ((u : Int) == 1) = false := by simp; omega
            clear hR hx0 hu0 hu1
            go_wp2_with (first | (refine wpList_load_row rfl 55 (.tmp 4) rfl (w.heap.size + 1) rfl 55 _ (0, 0) _ hg Try.underlying55 rfl ti55 ?_) | (refine wpList_store_row rfl 55 (.tmp 2) (.tmp 64) rfl w.heap.size (tabCells (fun n => L.count n) (.slice none 0 0)) rfl rfl 55 _ hr0 ti55 rfl (tab_one _ rfl) ?_))
            exact bodyPost_ret_by (results_tab rfl rfl (hr0.row_ _)) rfl (table_no HR.out (below_row hbel (Nat.le_refl _) _))
          · have HR := Lib.hid hR
            have hx0' : (0 : Int) < (x : Int) := by omega
            have hc1' : (((L.count 1 : Nat) : Int) == 1) = false := by simp; omega
            clear hR hx0 hc1
            go_wp2_with (first | (refine wpList_load_row rfl 55 (.tmp 4) rfl (w.heap.size + 1) rfl 55 _ (0, 0) _ hg Try.underlying55 rfl ti55 ?_) | (refine wpList_store_row rfl 55 (.tmp 2) (.tmp 64) rfl w.heap.size (tabCells (fun n => L.count n) (.slice none 0 0)) rfl rfl 55 _ hr0 ti55 rfl (tab_one _ rfl) ?_))
            exact bodyPost_ret_by (results_tab rfl rfl (hr0.row_ _)) rfl (table_no HR.out (below_row hbel (Nat.le_refl _) _))
          all_goals
            have HR := Lib.hid hR
            first
              | have hx0' : ¬ ((0 : Int) < (x : Int)) := by omega
              | ((have hx0' : (0 : Int) < (x : Int) := by omega); (first | (have hc1' : (((L.count 1 : Nat) : Int) == 1) = true := by (simp; omega)) | skip))
            clear hR hx0
            first | clear hc1 | skip
            go_wp2
            go_loopw [10] (fun n wr' => ∃ (j : Nat) (v : Value), j ≤ 15 ∧ n = .int .i64 ((j : Int) + 1) ∧ Blk wr' (w.heap.size + 1) 55 (tabCells (fun n => L.count n) v) ∧ Blk wr' w.heap.size 55 (tabCells (fun _ => 0) (.slice none 0 0)) ∧
                wr'.ownsRow w.heap.size 3 1 v (sgs L j).length (numsV (sgs L j)) ∧ Below w.heap.size w wr') (fun n _ => 16 - (intOf n).toNat)
            case atStart => exact ⟨0, _, by omega, rfl, hg, hr0, World.ownsRow_nil _ _ _ _, hbel⟩
            case round =>
              clear hg hr0 hbel h0 h1
              obtain ⟨j, v, hj, rfl, hg, hr0, hown, hbel⟩ := hrel
              by_cases hlt : j < 15
              · have hjb : decide ((j : Int) + 1 ≤ 15) = true := by simp; omega
                have hs0 : sgs L (j + 1) = sgs L j ++ idxs L (j + 1) := rfl
                have hsl := sgs_le L j
                have HS0 := Lib.hid hs0
                clear hs0
                obtain ⟨D, hD⟩ : ∃ D, sgs L j = D := ⟨_, rfl⟩
                rw [hD] at hown hsl
                have HDD := Lib.hid hD
                clear hD
                go_wp2
                go_loopw [71] (fun i wr2 => ∃ (k : Nat) (v : Value), k ≤ L.length ∧ i = .int .i64 (k : Nat) ∧ Blk wr2 (w.heap.size + 1) 55 (tabCells (fun n => L.count n) v) ∧ Blk wr2 w.heap.size 55 (tabCells (fun _ => 0) (.slice none 0 0)) ∧
                    wr2.ownsRow w.heap.size 3 1 v (D ++ idxF (L.take k) 0 (j + 1)).length (numsV (D ++ idxF (L.take k) 0 (j + 1))) ∧ Below w.heap.size w wr2) (fun i _ => L.length - (intOf i).toNat)
                case atStart => exact ⟨0, v, by omega, rfl, hg, hr0, by simpa [idxF] using hown, hbel⟩
                case round =>
                  clear hg hr0 hown hbel
                  obtain ⟨k, v, hk, rfl, hg, hr0, hown, hbel⟩ := hrel
                  by_cases hlt2 : k < L.length
                  · obtain ⟨b, o, rfl, hb, hc⟩ : ∃ b o, A = some ⟨b, o, none⟩ ∧ b < w.heap.size ∧ w.cell? ⟨b, o + k, none⟩ = some (.int .i64 (L.getD k 0 : Nat)) := by
                      rcases h with rfl | ⟨b, o, e, hb, hc⟩
                      · simp at hlt2
                      · exact ⟨b, o, e, hb, hc k hlt2⟩
                    have hck := (hbel.cell (p := ⟨b, o + k, none⟩) hb).trans hc
                    have hit := idxF_take L (j + 1) 0 k hlt2
                    have hil := idxF_length (L.take k) (j + 1) 0
                    have hil2 := (L.take k).count_le_length (a := j + 1)
                    generalize idxF (L.take k) 0 (j + 1) = R at *
                    have hRl : R.length ≤ 65536 := by rw [hil]; simp at hil2; omega
                    obtain ⟨x, hx⟩ : ∃ x, L.getD k 0 = x := ⟨_, rfl⟩
                    rw [hx] at hck hit
                    clear hil hil2 hx hc
                    by_cases hxe : x = j + 1
                    · have hxb : ((x : Int) == (j : Int) + 1) = true := by simp; omega
                      rw [if_pos hxe] at hit
                      have HIT := Lib.hid hit
                      clear hit hxe
                      have hc16 := hg.cell 16
                      rw [tab_get16] at hc16
                      have hf16 := hg.frozen 16
                      have hne := hg.own_ne hown (by decide)
                      have hne0 := hr0.own_ne hown (by decide)
                      go_wp2_with (at_builtin; refine wpList_append_own _ rfl _ _ 28 rfl w.heap.size 3 i0 (.int .i64 0) 1 8 Try.underlying28 hi hz0 hz1 hz2 rfl (by decide) _ _ _ rfl (hown.alloc _) ⟨wr.heap.size, 0, none⟩ 1 1 [.int .i64 (k : Nat)] rfl rfl (World.news_of_block (cs := #[.int .i64 (k : Nat)]) (t := 3) (fr := (0, 0)) (heap_alloc_new wr _)) (by simp [Value.oneCell']) (by unfold maxLen; simp; omega) (by simp; omega) (by have := hbel.size; simp; omega) ?_; intro v' w2 hown' hgrow _; obtain ⟨A', c', rfl⟩ := own_slice hown'; have hg2 := (hg.alloc _).grown hgrow hne; have hr2 := (hr0.alloc _).grown hgrow hne0; have hbel2 := (hbel.alloc hbel.size _).grown hgrow (by have := hbel.size; simp; omega) (fun g hg => (hown.lt g hg).1); have hf2 := hg2.frozen 16; have hc2 := hg2.cell 16; rw [tab_get16] at hc2; clear hg hr0 hown hgrow hbel hc16 hf16)
                      go_roundw
                      case rel => exact ⟨k + 1, _, by omega, by go_num, hg2.set_ 16 _, hr2.far (by simp) _, by rw [HIT.out]; simpa [numsV, Nat.add_assoc] using own_set hown' ⟨w.heap.size + 1, 16, none⟩ (.slice A' (D.length + R.length + 1) c') (hg2.own_ne hown' (by decide)), hbel2.setCell (by simp) _⟩
                      case measure => simp [intOf]; omega
                    · have hxb : ((x : Int) == (j : Int) + 1) = false := by simp; omega
                      rw [if_neg hxe, List.append_nil] at hit
                      have HIT := Lib.hid hit
                      clear hit hxe
                      go_wp2
                      go_roundw
                      case rel => exact ⟨k + 1, v, by omega, by go_num, hg, hr0, by rw [HIT.out]; exact hown, hbel⟩
                      case measure => simp [intOf]; omega
                  · obtain rfl : k = L.length := by omega
                    rw [List.take_length] at hown
                    go_wp2
                    go_roundw
                    case rel => exact ⟨j + 1, v, by omega, by go_num, hg, hr0, by rw [HS0.out, HDD.out]; exact hown, hbel⟩
                    case measure => simp [intOf]; omega
              · obtain rfl : j = 15 := by omega
                go_wp2_with (first | (refine wpList_load_row rfl 55 (.tmp 4) rfl (w.heap.size + 1) rfl 55 _ (0, 0) _ hg Try.underlying55 rfl ti55 ?_) | (refine wpList_store_row rfl 55 (.tmp 2) (.tmp 86) rfl w.heap.size (tabCells (fun n => L.count n) v) rfl rfl 55 _ hr0 ti55 rfl (tab_one _ (own_one hown)) ?_))
                exact bodyPost_ret_by (results_tab rfl rfl (hr0.row_ _)) rfl (table_yes HR.out (own_block hown fun k hk => setRow_other _ _ _ _ (fun e => hr0.own_ne hown (by decide) (by rw [← e, hk]))) (below_row hbel (Nat.le_refl _) _))

end Go.Proofs.Ythceefhnmjjddaa
