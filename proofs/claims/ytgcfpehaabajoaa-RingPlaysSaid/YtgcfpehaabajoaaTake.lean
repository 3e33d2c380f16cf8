/-
  The document's Take: a list without its i-th.
-/
import Derived.Test.YtgcfpehaabajoaaDrop
import Derived.Test.YtgcfpehaabajoaaAppend
namespace Go.Proofs.Ytgcfpehaabajoaa
open Go.RowKit

theorem ints_new {w : World} {base : Nat} {v : Value} {xs : List Int} (h : w.ownsRow base 3 1 v xs.length (xs.map (Value.int .i64))) (lo : Nat) (hlo : lo ≤ base) : IntsAt lo w.heap.size w v xs := by
  obtain ⟨a, cap, rfl, k⟩ := IntsAt.of_own (base := base) h
  refine ⟨a, cap, rfl, fun i hi => ?_⟩
  obtain ⟨g, rfl, h1, h2, hc⟩ := k i hi
  exact ⟨g, rfl, by omega, h2, hc⟩
theorem IntsAt.wide {lo hi hi' : Nat} {w : World} {v : Value} {xs : List Int} (h : IntsAt lo hi w v xs) (hh : hi ≤ hi') : IntsAt lo hi' w v xs := by
  obtain ⟨a, cap, rfl, h⟩ := h
  refine ⟨a, cap, rfl, fun i hi => ?_⟩
  obtain ⟨g, rfl, h1, h2, hc⟩ := h i hi
  exact ⟨g, rfl, h1, by omega, hc⟩
theorem IntsAt.src {lo hi : Nat} {w : World} {a : Option Addr} {n cap : Nat} {xs : List Int} (h : IntsAt lo hi w (.slice a n cap) xs) : Src w a (xs.map (Value.int .i64)) := by
  obtain ⟨a', cap', e, h⟩ := h
  cases e
  by_cases hx : xs = []
  · subst hx; exact .inl rfl
  · have hl : 0 < xs.length := List.length_pos_iff.2 hx
    obtain ⟨g, rfl, _⟩ := h 0 hl
    refine .inr ⟨_, rfl, fun j u hu => ?_⟩
    have hj : j < xs.length := by have := (List.getElem?_eq_some_iff.1 hu).1; simpa using this
    obtain ⟨g', e', _, _, hc⟩ := h j hj
    cases e'
    have hadd : (⟨g, 0, none⟩ : Addr).add j = ⟨g, j, none⟩ := by
      unfold Addr.add
      split
      · rename_i h; subst h; rfl
      · simp
    rw [hadd, hc]
    simp [hj] at hu
    rw [← hu]; simp [hj]

theorem eraseIdx_skip (L : List Int) (k i : Nat) (hk : k < L.length) (hne : k ≠ i) : (L.take (k + 1)).eraseIdx i = (L.take k).eraseIdx i ++ [L.getD k 0] := by
  rw [List.take_succ_eq_append_getElem hk]
  have hg : L[k] = L.getD k 0 := by simp [hk]
  rw [hg]
  rcases Nat.lt_or_gt_of_ne hne with h | h
  · rw [List.eraseIdx_of_length_le (by rw [List.length_append, List.length_take]; simp; omega), List.eraseIdx_of_length_le (by rw [List.length_take]; omega)]
  · rw [List.eraseIdx_append_of_lt_length (by rw [List.length_take]; omega)]
theorem eraseIdx_at (L : List Int) (k : Nat) (hk : k < L.length) : (L.take (k + 1)).eraseIdx k = (L.take k).eraseIdx k := by
  rw [List.take_succ_eq_append_getElem hk, List.eraseIdx_append_of_length_le (by rw [List.length_take]; omega), List.eraseIdx_of_length_le (l := L.take k) (by rw [List.length_take]; omega), List.length_take, Nat.min_eq_left (by omega), Nat.sub_self]
  simp
theorem erase_len (L : List Int) (k i : Nat) : ((L.take k).eraseIdx i).length ≤ k := by
  have := List.length_eraseIdx_le (L.take k) i
  rw [List.length_take] at this
  omega

theorem own_base {w : World} {base : Nat} {e : TypeId} {size : Nat} {v : Value} {n : Nat} {xs : List Value} (h : w.ownsRow base e size v n xs) {g : Nat} (hg : v.ownBlock = some g) : base ≤ g := by
  rcases h.2 with ⟨rfl, _⟩ | ⟨g', cap, cur, rfl, hb, _⟩
  · simp [Value.ownBlock] at hg
  · obtain rfl : g' = g := by simpa [Value.ownBlock] using hg
    exact hb

set_option maxRecDepth 100000 in
theorem ref_take (lo hi : Nat) (v : Value) (L : List Int) (i : Int) (w : World) (hv : IntsAt lo hi w v L) (hlo : lo ≤ w.heap.size) (hhi : hi ≤ w.heap.size) (hL : L.length ≤ 1024) :
    Calls Try.prog 19 #[v, .int .i64 i] w fun e w' => ∃ v', e = .returned (.tuple #[v', .int .i64 (at_ L i), .bool (decide (0 ≤ i ∧ i < L.length))]) ∧ Below w.heap.size w w' ∧
      IntsAt lo w'.heap.size w' v' (if 0 ≤ i ∧ i < L.length then L.eraseIdx i.toNat else L) := by
  have hv0 := hv
  obtain ⟨a, ca, rfl, hc⟩ := hv
  unfold at_
  by_cases h0 : i < 0
  · have hne : ¬ (0 ≤ i ∧ i < L.length) := by omega
    rw [if_neg hne, if_neg hne, decide_eq_false hne]
    clear hc
    go_enter Try.func19, Try.ntmps19
    go_wp2
    go_ret3
    exact ⟨_, rfl, Below.refl _ _, hv0.wide hhi⟩
  · by_cases h1 : (L.length : Int) ≤ i
    · have hne : ¬ (0 ≤ i ∧ i < L.length) := by omega
      rw [if_neg hne, if_neg hne, decide_eq_false hne]
      clear hc
      go_enter Try.func19, Try.ntmps19
      go_wp2
      go_ret3
      exact ⟨_, rfl, Below.refl _ _, hv0.wide hhi⟩
    · obtain ⟨n, rfl⟩ : ∃ n : Nat, i = (n : Int) := ⟨i.toNat, by omega⟩
      have hn : n < L.length := by omega
      have hne : 0 ≤ (n : Int) ∧ (n : Int) < L.length := by omega
      rw [if_pos hne, if_pos hne, decide_eq_true hne, Int.toNat_natCast]
      clear hne
      obtain ⟨i0, hi1, hz0, hz1, hz2⟩ := info_parts info3
      go_enter Try.func19, Try.ntmps19
      go_wp2_with fail
      go_loopw [7, 8, 9, 22] (fun out _ _ k wr => ∃ j : Nat, k = .int .i64 (j : Nat) ∧ j ≤ L.length ∧ wr.ownsRow w.heap.size 3 1 out ((L.take j).eraseIdx n).length (((L.take j).eraseIdx n).map (Value.int .i64)) ∧ Below w.heap.size w wr) (fun _ _ _ k _ => L.length - (intOf k).toNat)
      case atStart => exact ⟨0, rfl, by omega, ownsRow_empty (heap_alloc_new w _) (Nat.le_refl _), (Below.refl _ w).alloc (Nat.le_refl _) _⟩
      case round =>
        obtain ⟨j, rfl, hj, hown, hb⟩ := hrel
        have hel := erase_len L j n
        by_cases hlt : j < L.length
        · obtain ⟨g, rfl, _, _, hcj⟩ := hc j hlt
          have hcx := (hb.cell (p := ⟨g, j, none⟩) (World.block_lt_of_cell? _ _ hcj)).trans hcj
          have hsk := eraseIdx_skip L j n hlt
          obtain ⟨x, hx⟩ : ∃ x, L.getD j 0 = x := ⟨_, rfl⟩
          rw [hx] at hcx hsk
          have hbz := hb.size
          clear hc hcj
          by_cases e : j = n
          · subst e
            have hat := eraseIdx_at L j hlt
            go_wp2
            go_roundw
            case rel => exact ⟨j + 1, by go_num, by omega, by rw [hat]; exact hown, hb⟩
            case measure => simp [intOf]; omega
          · have e' : ((j : Int) == (n : Int)) = false := by simp; omega
            have hsk := hsk e
            go_wp2_with (at_builtin; refine wpList_append_own _ rfl _ _ 37 rfl w.heap.size 3 i0 (.int .i64 0) 1 8 Try.underlying37 hi1 hz0 hz1 hz2 rfl (by decide) _ ((L.take j).eraseIdx n).length _ rfl (hown.alloc _) ⟨wr.heap.size, 0, none⟩ 1 1 [.int .i64 x] rfl rfl (cell_one_new _ _ _) (by simp [Value.oneCell']) (by unfold maxLen; omega) (by omega) (by simp; omega) ?_; intro v' w1 hown' hgrow _)
            have hbel := ((Below.refl _ wr).alloc hbz (.cells #[.int .i64 x] 3)).grown hgrow (by simp; omega) (fun g' hg' => own_base hown hg')
            refine ⟨⟨j + 1, rfl, by omega, ?_, hb.trans hbel⟩, by simp [intOf]; omega⟩
            rw [hsk, List.length_append, List.map_append]
            exact hown'
        · obtain rfl : j = L.length := by omega
          obtain ⟨g, rfl, _, _, hcj⟩ := hc n hn
          have hcx := (hb.cell (p := ⟨g, n, none⟩) (World.block_lt_of_cell? _ _ hcj)).trans hcj
          obtain ⟨x, hx⟩ : ∃ x, L.getD n 0 = x := ⟨_, rfl⟩
          rw [hx] at hcx
          rw [List.take_length] at hown
          clear hc hcj
          go_wp2_with fail
          go_quiet (fail)
          go_wp2
          go_ret3
          refine ⟨_, by rw [hx]; rfl, below_drewN hb _, ?_⟩
          exact ints_new hown lo hlo

end Go.Proofs.Ytgcfpehaabajoaa
