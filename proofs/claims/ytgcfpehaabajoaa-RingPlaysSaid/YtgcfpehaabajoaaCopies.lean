/-
  'cordonlaw24.RingCopies' returns true, for every size and every two lists of acts; what was there stays as it was.
-/
import Derived.Test.YtgcfpehaabajoaaDo
import Derived.Test.YtgcfpehaabajoaaOrder
namespace Go.Proofs.Ytgcfpehaabajoaa
open Go.RowKit

theorem allL (Bn b g N : Nat) (L : List Int) (w : World) (hBn : Boxed w Bn 24 (.pointer (some ⟨b, 0, none⟩))) (hR : RingL w b g N L) :
    Calls Try.prog 12 #[.func (.func 22) #[] #[.pointer (some ⟨Bn, 0, none⟩)]] w fun e w' => ∃ v, e = .returned (.tuple #[v, .bool true]) ∧ IntsAt w.heap.size w'.heap.size w' v L ∧ Below w.heap.size w w' := by
  obtain ⟨f, m, raw, c, h, rfl⟩ := hR
  refine (all_any Bn b g N f m raw c w hBn h).mono ?_
  rintro e w' ⟨v, he, hown, hb⟩
  exact ⟨v, he, IntsAt.of_own (by rw [upto_length]; exact hown), hb⟩

theorem copyL (b g N : Nat) (L : List Int) (w : World) (hR : RingL w b g N L) :
    Calls Try.prog 14 #[.pointer (some ⟨b, 0, none⟩), .func (.func 15) #[] #[]] w fun e w' => ∃ b' g', e = .returned (.pointer (some ⟨b', 0, none⟩)) ∧ w.heap.size ≤ b' ∧ w.heap.size ≤ g' ∧
      RingL w' b' g' N L ∧ Below w.heap.size w w' := by
  obtain ⟨f, m, raw, c, h, rfl⟩ := hR
  refine (copy_any b g N f m raw c w h).mono ?_
  rintro e w' ⟨b', g', raw', he, h1, h2, hr, hb⟩
  exact ⟨b', g', he, h1, h2, ⟨0, m, raw', c, hr, rfl⟩, hb⟩

theorem newL (n : Int) (N : Nat) (w : World) (hn : n = (N : Nat)) (h1 : 1 ≤ N) (h2 : N ≤ 1024) :
    Calls Try.prog 6 #[.int .i64 n] w fun e w' => e = .returned (.pointer (some ⟨w.heap.size + 1, 0, none⟩)) ∧ Below w.heap.size w w' ∧ w'.heap.size = w.heap.size + 2 ∧
      RingL w' (w.heap.size + 1) w.heap.size N [] := by
  refine (new_at n N w hn h1 h2).mono ?_
  rintro e w' ⟨he, hb, hz, hr⟩
  exact ⟨he, hb, hz, 0, 0, _, _, hr, rfl⟩

theorem box_below (w : World) (o : Obj) : Below w.heap.size w (w.alloc o) := (Below.refl _ w).alloc (Nat.le_refl _) _

theorem IntsAt.grown {lo hi : Nat} {w w' : World} {v : Value} {xs : List Int} (h : IntsAt lo hi w v xs) (k : Below w.heap.size w w') (hh : hi ≤ w.heap.size) : IntsAt lo hi w' v xs := h.keep fun g _ h2 => k.block g (by omega)
theorem IntsAt.turned {lo hi b g : Nat} {w w' : World} {v : Value} {xs : List Int} (h : IntsAt lo hi w v xs) (k : Turned b g w w') (hh : hi ≤ w.heap.size) (hb : b < lo ∨ hi ≤ b) (hg : g < lo ∨ hi ≤ g) : IntsAt lo hi w' v xs := h.keep fun i h1 h2 => k.block i (by omega) (by omega) (by omega)

theorem acts_len (N : Nat) (F : Nat → Int × Int × Int) (k : Nat) (L : List Int) (h : L.length ≤ N) : (acts N L F k).length ≤ N := by
  induction k with
  | zero => exact h
  | succ k ih =>
    rw [acts_succ]
    unfold act
    split
    · split
      · rw [List.length_append]; simp; omega
      · exact ih
    · split
      · split
        · exact Nat.le_trans (List.length_eraseIdx_le _ _) ih
        · exact ih
      · exact ih

set_option maxRecDepth 100000 in
theorem copies_any (size : Int) (a : Option Addr) (len cap : Nat) (F : Nat → Int × Int × Int) (a2 : Option Addr) (len2 cap2 : Nat) (F2 : Nat → Int × Int × Int) (w : World) (hs : ActsAt w a len F) (hs2 : ActsAt w a2 len2 F2) (hlen : len ≤ maxLen) (hlen2 : len2 ≤ maxLen) :
    Calls Try.prog 4 #[.int .i64 size, .slice a len cap, .slice a2 len2 cap2] w fun e w' => e = .returned (.bool true) ∧ Below w.heap.size w w' := by
  unfold maxLen at hlen hlen2
  obtain ⟨N, hN, hN1, hN2⟩ := size_fits size
  have HN := Lib.hid hN
  clear hN
  have ha : ∀ w', Below w.heap.size w w' → ∀ i, i < len → ∃ b o, a = some ⟨b, o, none⟩ ∧ w'.cell? ⟨b, o + i * 3, none⟩ = some (.int .i64 (F i).1) ∧ w'.cell? ⟨b, o + i * 3 + 1, none⟩ = some (.int .i64 (F i).2.1) ∧ w'.cell? ⟨b, o + i * 3 + 2, none⟩ = some (.int .i64 (F i).2.2) := by
    intro w' hb i hi
    obtain ⟨b, o, e, _, h⟩ := hs.below hb i hi
    exact ⟨b, o, e, h⟩
  have ha2 : ∀ w', Below w.heap.size w w' → ∀ i, i < len2 → ∃ b o, a2 = some ⟨b, o, none⟩ ∧ w'.cell? ⟨b, o + i * 3, none⟩ = some (.int .i64 (F2 i).1) ∧ w'.cell? ⟨b, o + i * 3 + 1, none⟩ = some (.int .i64 (F2 i).2.1) ∧ w'.cell? ⟨b, o + i * 3 + 2, none⟩ = some (.int .i64 (F2 i).2.2) := by
    intro w' hb i hi
    obtain ⟨b, o, e, _, h⟩ := hs2.below hb i hi
    exact ⟨b, o, e, h⟩
  clear hs hs2
  go_enter Try.func4, Try.ntmps4
  go_wp2_with fail
  rw [HN.out]
  clear HN
  refine (newL _ N _ rfl hN1 (by omega)).mono ?_
  rintro e w1 ⟨rfl, hb1, hz1, hr1⟩
  go_wp2_with fail
  refine (lives_any _).mono ?_
  rintro e w2 ⟨rfl, hb2⟩
  have hb := hb1.trans (hb2.mono (by omega))
  have hr2 := hr1.grown hb2
  have hz2 := hb2.size
  clear hr1 hb1
  have short : (80 < len ∨ 80 < len2) → True := fun _ => trivial
  by_cases hl : 80 < len
  · have hl' : (80 : Int) < (len : Int) := by omega
    clear short
    go_wp2_with fail
    refine (lives_any _).mono ?_
    rintro e w3 ⟨rfl, hb3⟩
    go_wp2
    go_ret
    exact ⟨rfl, hb.trans (hb3.mono hb.size)⟩
  · have hl' : ¬ (80 : Int) < (len : Int) := by omega
    clear short
    by_cases hm : 80 < len2
    · have hm' : (80 : Int) < (len2 : Int) := by omega
      go_wp2_with fail
      refine (lives_any _).mono ?_
      rintro e w3 ⟨rfl, hb3⟩
      go_wp2
      go_ret
      exact ⟨rfl, hb.trans (hb3.mono hb.size)⟩
    · have hm' : ¬ (80 : Int) < (len2 : Int) := by omega
      go_wp2_with fail
      -- do(r, l)
      refine (do_any _ _ N _ a len cap F w.heap.size _ hr2 (by omega) (by omega) (by omega) (fun w' h => ha w' (hb.trans h)) (by omega)).mono ?_
      rintro e w3 ⟨⟨v3, rfl⟩, ht3, hr3⟩
      have hb3 := hb.trans (ht3.below (by omega) (by omega) (by omega))
      go_wp2_with fail
      have hz3 := ht3.size
      clear ha
      refine (seq_any _ _).mono ?_
      rintro e y4 ⟨rfl, rfl⟩
      go_wp2_with fail
      refine (allL _ _ _ N _ _ (Boxed.new _ _ _) (hr3.grown (box_below _ _))).mono ?_
      rintro e w4 ⟨v4, rfl, hi4, hy4⟩
      have hg4 := (box_below w3 _).trans (hy4.mono (by rw [World.size_alloc]; omega))
      rw [World.size_alloc] at hi4
      clear hy4
      have hz4 := hg4.size
      have hr4 := hr3.grown hg4
      go_wp2_with fail
      refine (copyL _ _ N _ _ hr4).mono ?_
      rintro e w5 ⟨b', g', rfl, hb5, hg5, hr5, hw5⟩
      have hz5 := hw5.size
      have hc5 := hr5.lt
      have hr5r := hr4.grown hw5
      have hi5 := hi4.grown hw5 (Nat.le_refl _)
      go_wp2_with fail
      refine (seq_any _ _).mono ?_
      rintro e y6 ⟨rfl, rfl⟩
      go_wp2_with fail
      refine (allL _ _ _ N _ _ (Boxed.new _ _ _) (hr5.grown (box_below _ _))).mono ?_
      rintro e w6 ⟨v6, rfl, hi6, hy6⟩
      have hg6 := (box_below w5 _).trans (hy6.mono (by rw [World.size_alloc]; omega))
      rw [World.size_alloc] at hi6
      clear hy6
      have hz6 := hg6.size
      have hr6 := hr5.grown hg6
      have hr6r := hr5r.grown hg6
      have hi6w := hi5.grown hg6 (by omega)
      have hB6 := (((hb3.trans (hg4.mono hb3.size)).trans (hw5.mono (by omega))).trans (hg6.mono (by omega)))
      go_wp2_with fail
      refine (do_any _ _ N _ a2 len2 cap2 F2 w.heap.size _ hr6 (by omega) (by omega) (by omega) (fun w' h => ha2 w' (hB6.trans h)) (by omega)).mono ?_
      rintro e w7 ⟨⟨v7, rfl⟩, ht7, hr7⟩
      have hz7 := ht7.size
      have hr7r := hr6r.turned ht7 (by omega) (by omega) (by omega) (by omega)
      have hi7w := hi6w.turned ht7 (by omega) (by omega) (by omega)
      have hi7t := hi6.turned ht7 (by omega) (by omega) (by omega)
      have hB7 := hB6.trans (ht7.below (by omega) (by omega) (by omega))
      go_wp2_with fail
      refine (seq_any _ _).mono ?_
      rintro e y8 ⟨rfl, rfl⟩
      go_wp2_with fail
      refine (allL _ _ _ N _ _ (Boxed.new _ _ _) (hr7r.grown (box_below _ _))).mono ?_
      rintro e w8 ⟨v8, rfl, hi8, hy8⟩
      have hg8 := (box_below w7 _).trans (hy8.mono (by rw [World.size_alloc]; omega))
      rw [World.size_alloc] at hi8
      clear hy8
      have hz8 := hg8.size
      have hr8 := hr7.grown hg8
      have hr8r := hr7r.grown hg8
      have hi8w := hi7w.grown hg8 (by omega)
      have hi8t := hi7t.grown hg8 (by omega)
      have hB8 := hB7.trans (hg8.mono (by omega))
      have hc8 := hr8.lt
      go_wp2_with fail
      refine (do_any _ _ N _ a2 len2 cap2 F2 w.heap.size _ hr8r (by omega) (by omega) (by omega) (fun w' h => ha2 w' (hB8.trans h)) (by omega)).mono ?_
      rintro e w9 ⟨⟨v9, rfl⟩, ht9, hr9r⟩
      have hz9 := ht9.size
      have hr9 := hr8.turned ht9 (by omega) (by omega) (by omega) (by omega)
      have hi9w := hi8w.turned ht9 (by omega) (by omega) (by omega)
      have hi9t := hi8t.turned ht9 (by omega) (by omega) (by omega)
      have hi9n := hi8.turned ht9 (by omega) (by omega) (by omega)
      have hB9 := hB8.trans (ht9.below (by omega) (by omega) (by omega))
      go_wp2_with fail
      refine (seq_any _ _).mono ?_
      rintro e y10 ⟨rfl, rfl⟩
      go_wp2_with fail
      refine (allL _ _ _ N _ _ (Boxed.new _ _ _) (hr9r.grown (box_below _ _))).mono ?_
      rintro e w10 ⟨v10, rfl, hi10, hy10⟩
      have hg10 := (box_below w9 _).trans (hy10.mono (by rw [World.size_alloc]; omega))
      rw [World.size_alloc] at hi10
      clear hy10
      have hz10 := hg10.size
      have hr10 := hr9.grown hg10
      have hi10w := hi9w.grown hg10 (by omega)
      have hi10t := hi9t.grown hg10 (by omega)
      have hi10n := hi9n.grown hg10 (by omega)
      have hB10 := hB9.trans (hg10.mono (by omega))
      go_wp2_with fail
      refine (seq_any _ _).mono ?_
      rintro e y11 ⟨rfl, rfl⟩
      go_wp2_with fail
      refine (allL _ _ _ N _ _ (Boxed.new _ _ _) (hr10.grown (box_below _ _))).mono ?_
      rintro e w11 ⟨v11, rfl, hi11, hy11⟩
      have hg11 := (box_below w10 _).trans (hy11.mono (by rw [World.size_alloc]; omega))
      rw [World.size_alloc] at hi11
      clear hy11
      have hz11 := hg11.size
      have hi11w := hi10w.grown hg11 (by omega)
      have hi11t := hi10t.grown hg11 (by omega)
      have hi11n := hi10n.grown hg11 (by omega)
      have hi11a := hi10.grown hg11 (by omega)
      have hB11 := hB10.trans (hg11.mono (by omega))
      have k1 := hr3.len
      have k2 := hr7.len
      go_wp2_with fail
      refine (same_any _ _ _ _ _ _ _ _ _ hi11w hi11t (by omega)).mono ?_
      rintro e w12 ⟨rfl, hg12⟩
      rw [decide_eq_true rfl]
      have hz12 := hg12.size
      have hi12w := hi11w.grown hg12 (by omega)
      have hi12n := hi11n.grown hg12 (by omega)
      have hi12a := hi11a.grown hg12 (by omega)
      have hi12b := hi11.grown hg12 (by omega)
      have hB12 := hB11.trans (hg12.mono (by omega))
      go_wp2_with fail
      refine (same_any _ _ _ _ _ _ _ _ _ hi12w hi12n (by omega)).mono ?_
      rintro e w13 ⟨rfl, hg13⟩
      rw [decide_eq_true rfl]
      have hi13a := hi12a.grown hg13 (by omega)
      have hi13b := hi12b.grown hg13 (by omega)
      have hB13 := hB12.trans (hg13.mono (by omega))
      have hz13 := hg13.size
      go_wp2_with fail
      refine (same_any _ _ _ _ _ _ _ _ _ hi13a hi13b (by omega)).mono ?_
      rintro e w14 ⟨rfl, hg14⟩
      rw [decide_eq_true rfl]
      go_wp2
      go_ret
      exact ⟨rfl, hB13.trans (hg14.mono (by omega))⟩

end Go.Proofs.Ytgcfpehaabajoaa
