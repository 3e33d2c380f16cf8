/-
  RingPlays at a ring.
-/
import Derived.Test.YtgcfpehaabajoaaPlays
namespace Go.Proofs.Ytgcfpehaabajoaa
open Go.RowKit


set_option maxRecDepth 100000 in
set_option maxHeartbeats 8000000 in
theorem plays_good (N : Nat) (a : Option Addr) (len cap : Nat) (F : Nat → Int × Int × Int) (w : World) (hs : ActsAt w a len F) (hlen : len ≤ 80) (h1 : 1 ≤ N) (h2 : N ≤ 1024) :
    Calls Try.prog 5 #[.int .i64 (N : Int), .slice a len cap] w fun e w' => e = .returned (.bool true) ∧ Below w.heap.size w w' := by
  have ha : ∀ w', Below w.heap.size w w' → ∀ i, i < len → ∃ b o, a = some ⟨b, o, none⟩ ∧ w'.cell? ⟨b, o + i * 3, none⟩ = some (.int .i64 (F i).1) ∧ w'.cell? ⟨b, o + i * 3 + 1, none⟩ = some (.int .i64 (F i).2.1) ∧ w'.cell? ⟨b, o + i * 3 + 2, none⟩ = some (.int .i64 (F i).2.2) := by
    intro w' hb i hi
    obtain ⟨b, o, e, _, h⟩ := hs.below hb i hi
    exact ⟨b, o, e, h⟩
  clear hs
  have hl' : ¬ (80 : Int) < (len : Int) := by omega
  have hs1 : ¬ (N : Int) < 1 := by omega
  have hs2 : ¬ (1024 : Int) < (N : Int) := by omega
  go_enter Try.func5, Try.ntmps5
  go_wp2_with fail
  refine (lives_any _).mono ?_
  rintro e w1 ⟨rfl, hb1⟩
  go_wp2_with fail
  refine (newL _ N _ rfl h1 h2).mono ?_
  rintro e w2 ⟨rfl, hb2, hz2, hr2⟩
  have hz1 := hb1.size
  have hb := hb1.trans (hb2.mono hz1)
  clear hb2
  obtain ⟨S, hS⟩ : ∃ S, w1.heap.size = S := ⟨_, rfl⟩
  rw [hS] at hz2 hr2 hz1 ⊢
  go_wp2_with fail
  go_loopw [13, 99] (fun v i wr => ∃ (k : Nat) (L : List Int), i = .int .i64 (k : Nat) ∧ k ≤ len ∧ RingL wr (S + 1) S N L ∧ IntsAt (S + 2) wr.heap.size wr v L ∧ Below w.heap.size w wr) (fun _ i _ => len - (intOf i).toNat)
  case atStart => exact ⟨0, [], rfl, by omega, hr2, ⟨none, 0, rfl, fun i hi => absurd hi (by simp)⟩, hb⟩
  case round =>
    obtain ⟨k, L, rfl, hk, hr, hi, hB⟩ := hrel
    clear hr2 hb hb1
    by_cases hlt : k < len
    · obtain ⟨ba, o, rfl, c0, c1, c2⟩ := ha wr hB k hlt
      generalize hF : F k = t at c0 c1 c2
      obtain ⟨K, I, X⟩ := t
      simp only at c0 c1 c2
      clear ha hF
      have hal := box_below wr (.cells #[.int .i64 K, .int .i64 I, .int .i64 X] 35)
      have hra := hr.grown hal
      have hia := (hi.grown hal (Nat.le_refl _)).wide (hi' := (wr.alloc (.cells #[.int .i64 K, .int .i64 I, .int .i64 X] 35)).heap.size) (by simp)
      have hBa := hB.trans (hal.mono hB.size)
      have hcl := hr.lt
      have hln := hr.len
      have hBz := hBa.size
      have hzal := hal.size
      have hcX : (wr.alloc (.cells #[.int .i64 K, .int .i64 I, .int .i64 X] 35)).cell? ⟨wr.heap.size, 2, none⟩ = some (.int .i64 X) := (Blk.new wr 35 _).cell 2
      clear hr hi hB hal
      by_cases e0 : K = 0
      · subst e0
        go_wp2_with fail
        refine (putL _ _ N _ X _ hra).mono ?_
        rintro e w3 ⟨rfl, ht3, hr3⟩
        have hiT := (hia.turned ht3 (Nat.le_refl _) (by omega) (by omega)).wide ht3.size
        have hz3 := ht3.size
        have hBT := hBa.trans (ht3.below (by omega) (by omega) (by omega))
        have hcX3 : w3.cell? ⟨wr.heap.size, 2, none⟩ = some (.int .i64 X) := (ht3.blk (Blk.new wr 35 _) (by omega) (by omega)).cell 2
        obtain ⟨av, cv, hv, _⟩ := id hiT
        subst hv
        by_cases hroom : L.length < N
        · rw [if_pos hroom] at hr3 ⊢
          have hroom' : (L.length : Int) < (N : Int) := by omega
          go_wp2_with fail
          obtain ⟨i0, hin, hz0, hzz1, hzz2⟩ := info_parts info3
          have hsrc : ∀ W, Below w3.heap.size w3 W → Src W av (L.map (Value.int .i64)) := fun W hW => (hiT.grown hW (Nat.le_refl _)).src
          have hkeep : ∀ W, Below w3.heap.size w3 W → W.cell? ⟨wr.heap.size, 2, none⟩ = some (.int .i64 X) := fun W hW => (hW.cell (World.block_lt_of_cell? _ _ hcX3)).trans hcX3
          have bA := Blk.new w3 3 #[]
          have bC : Blk ((w3.alloc (.cells #[.int .i64 X] 3)).alloc (.cells #[] 3)) (w3.heap.size + 1) 3 #[] := by have h := Blk.new (w3.alloc (.cells #[.int .i64 X] 3)) 3 #[]; rwa [World.size_alloc] at h
          have oB : Blk ((w3.alloc (.cells #[] 3)).alloc (.cells #[.int .i64 X] 3)) (w3.heap.size + 1) 3 #[.int .i64 X] := by have h := Blk.new (w3.alloc (.cells #[] 3)) 3 #[.int .i64 X]; rwa [World.size_alloc] at h
          have oC := (Blk.new w3 3 #[.int .i64 X]).alloc (.cells #[] 3)
          go_region_held3 (fun W => W.cell? ⟨wr.heap.size, 2, none⟩ = some (.int .i64 X)) (first | exact hkeep _ (by repeat (first | assumption | exact Below.refl _ _ | refine Below.drew ?_ | refine Below.alloc ?_ (by first | (simp; done) | (simp; omega) | omega) _))) (first | (refine step_append_src _ (by rfl) _ _ _ (by rfl) w3.heap.size 3 i0 (.int .i64 0) 1 8 Try.underlying37 hin hz0 hzz1 hzz2 rfl (by omega) _ 0 [] (by rfl) (ownsRow_empty (by first | exact bA | exact bA.alloc _ | exact bC) (by simp)) av L.length cv (L.map (Value.int .i64)) (by rfl) (by simp) (hsrc _ (by repeat (first | assumption | exact Below.refl _ _ | refine Below.drew ?_ | refine Below.alloc ?_ (by first | (simp; done) | (simp; omega) | omega) _))) (by simp [Value.oneCell']) (by unfold maxLen; omega) (by omega) (by simp; try omega) ?_; intro v1 w4 hown1 hgrow1; have hb4 : Below w3.heap.size w3 w4 := Below.grown (by repeat (first | assumption | exact Below.refl _ _ | refine Below.drew ?_ | refine Below.alloc ?_ (by first | (simp; done) | (simp; omega) | omega) _)) hgrow1 (by simp; try omega) (fun g hg => by simp [Value.ownBlock] at hg; omega); have hz4 := hb4.size; (first | (have hone := (hgrow1.block (w3.heap.size + 1) (by simp; done) (by simp [Value.ownBlock])).trans oB) | (have hone := (hgrow1.block w3.heap.size (by first | (simp; done) | (simp; omega)) (by simp [Value.ownBlock])).trans oC) | skip)) | (refine step_append_src _ (by rfl) _ _ _ (by rfl) w3.heap.size 3 i0 (.int .i64 0) 1 8 Try.underlying37 hin hz0 hzz1 hzz2 rfl (by omega) _ (0 + L.length) ([] ++ L.map (Value.int .i64)) (by rfl) (by first | exact hown1 | exact hown1.alloc _) _ 1 1 [.int .i64 X] (by rfl) (by rfl) (.inr ⟨_, rfl, World.news_of_block (cs := #[.int .i64 X]) (t := 3) (fr := (0, 0)) (by first | exact heap_alloc_new _ _ | exact hone)⟩) (by simp [Value.oneCell']) (by unfold maxLen; omega) (by omega) (by have := hb4.size; simp; try omega) ?_; intro v2 w5 hown2 hgrow2; have hb5 : Below w3.heap.size w3 w5 := Below.grown (by repeat (first | assumption | exact Below.refl _ _ | refine Below.drew ?_ | refine Below.alloc ?_ (by first | (simp; done) | (simp; omega) | omega) _)) hgrow2 (by have := hb4.size; simp; try omega) (fun g hg => own_base hown1 hg)))
          all_goals
            have hrT := hr3.grown hb5
            have hi5 : IntsAt (S + 2) w5.heap.size w5 v2 (L ++ [X]) := ints_new (base := w3.heap.size) (by rw [List.length_append, List.map_append]; simpa using hown2) (S + 2) (by omega)
            replace hiT := hi5
            replace hBT := hBT.trans (hb5.mono hBT.size)
            clear hi5 hsrc hkeep bA bC oB oC
            go_wp2_with fail
            refine (seq_any _ _).mono ?_
            rintro e y1 ⟨rfl, rfl⟩
            go_wp2_with fail
            refine (allL _ _ _ N _ _ (Boxed.new _ _ _) (hrT.grown (box_below _ _))).mono ?_
            rintro e y2 ⟨vA, rfl, hiA, hyA⟩
            have hgA := (box_below _ _).trans (hyA.mono (by rw [World.size_alloc]; omega))
            rw [World.size_alloc] at hiA
            clear hyA
            have hzA := hgA.size
            have hrA := hrT.grown hgA
            have hiB := hiT.grown hgA (Nat.le_refl _)
            have hLA := hrA.len
            have hBA := hBT.trans (hgA.mono hBT.size)
            go_wp2_with fail
            refine (same_any _ _ _ _ _ _ _ _ _ hiA hiB (by omega)).mono ?_
            rintro e y3 ⟨rfl, hg3⟩
            rw [decide_eq_true rfl]
            have hr3 := hrA.grown hg3
            have hi3 := (hiB.grown hg3 (by omega)).wide (hi' := y3.heap.size) (by have := hg3.size; omega)
            have hB3 := hBA.trans (hg3.mono hBA.size)
            go_wp2_with fail
            refine (lenL _ _ _ _ _ hr3).mono ?_
            rintro e y4 ⟨rfl, rfl⟩
            obtain ⟨aT, cT, hvT, _⟩ := hiT
            cases hvT
            go_wp2
            go_roundw
            case rel => exact ⟨k + 1, _, by go_num, by omega, hr3, (by first | exact hi3 | (rw [List.length_append] at hi3; exact hi3)), hB3⟩
            case measure => simp [intOf]; omega
        · rw [if_neg hroom] at hr3 ⊢
          have hroom' : ¬ (L.length : Int) < (N : Int) := by omega
          have hrT := hr3
          go_wp2_with fail
          refine (seq_any _ _).mono ?_
          rintro e y1 ⟨rfl, rfl⟩
          go_wp2_with fail
          refine (allL _ _ _ N _ _ (Boxed.new _ _ _) (hrT.grown (box_below _ _))).mono ?_
          rintro e y2 ⟨vA, rfl, hiA, hyA⟩
          have hgA := (box_below _ _).trans (hyA.mono (by rw [World.size_alloc]; omega))
          rw [World.size_alloc] at hiA
          clear hyA
          have hzA := hgA.size
          have hrA := hrT.grown hgA
          have hiB := hiT.grown hgA (Nat.le_refl _)
          have hLA := hrA.len
          have hBA := hBT.trans (hgA.mono hBT.size)
          go_wp2_with fail
          refine (same_any _ _ _ _ _ _ _ _ _ hiA hiB (by omega)).mono ?_
          rintro e y3 ⟨rfl, hg3⟩
          rw [decide_eq_true rfl]
          have hr3 := hrA.grown hg3
          have hi3 := (hiB.grown hg3 (by omega)).wide (hi' := y3.heap.size) (by have := hg3.size; omega)
          have hB3 := hBA.trans (hg3.mono hBA.size)
          go_wp2_with fail
          refine (lenL _ _ _ _ _ hr3).mono ?_
          rintro e y4 ⟨rfl, rfl⟩
          obtain ⟨aT, cT, hvT, _⟩ := hiT
          cases hvT
          go_wp2
          go_roundw
          case rel => exact ⟨k + 1, _, by go_num, by omega, hr3, (by first | exact hi3 | (rw [List.length_append] at hi3; exact hi3)), hB3⟩
          case measure => simp [intOf]; omega
      · by_cases e1 : K = 1
        · subst e1
          go_wp2_with fail
          refine (takeL _ _ N _ I _ hra).mono ?_
          rintro e w3 ⟨rfl, ht3, hr3⟩
          have hi3 := hia.turned ht3 (Nat.le_refl _) (by omega) (by omega)
          have hz3 := ht3.size
          have hcI : w3.cell? ⟨wr.heap.size, 1, none⟩ = some (.int .i64 I) := (ht3.blk (Blk.new wr 35 _) (by omega) (by omega)).cell 1
          have hB3 := hBa.trans (ht3.below (by omega) (by omega) (by omega))
          go_wp2_with fail
          refine (ref_take _ _ _ _ _ _ hi3 (by omega) hz3 (by omega)).mono ?_
          rintro e w4 ⟨v4, rfl, hb4, hiT⟩
          have hrT := hr3.grown hb4
          have hBT := hB3.trans (hb4.mono hB3.size)
          go_wp2_with fail
          refine (seq_any _ _).mono ?_
          rintro e y1 ⟨rfl, rfl⟩
          go_wp2_with fail
          refine (allL _ _ _ N _ _ (Boxed.new _ _ _) (hrT.grown (box_below _ _))).mono ?_
          rintro e y2 ⟨vA, rfl, hiA, hyA⟩
          have hgA := (box_below _ _).trans (hyA.mono (by rw [World.size_alloc]; omega))
          rw [World.size_alloc] at hiA
          clear hyA
          have hzA := hgA.size
          have hrA := hrT.grown hgA
          have hiB := hiT.grown hgA (Nat.le_refl _)
          have hLA := hrA.len
          have hBA := hBT.trans (hgA.mono hBT.size)
          go_wp2_with fail
          refine (same_any _ _ _ _ _ _ _ _ _ hiA hiB (by omega)).mono ?_
          rintro e y3 ⟨rfl, hg9⟩
          rw [decide_eq_true rfl]
          have hr9 := hrA.grown hg9
          have hi9 := (hiB.grown hg9 (by omega)).wide (hi' := y3.heap.size) (by have := hg9.size; omega)
          have hB9 := hBA.trans (hg9.mono hBA.size)
          go_wp2_with fail
          refine (lenL _ _ _ _ _ hr9).mono ?_
          rintro e y4 ⟨rfl, rfl⟩
          obtain ⟨aT, cT, hvT, _⟩ := hiT
          cases hvT
          go_wp2
          go_roundw
          case rel => exact ⟨k + 1, _, by go_num, by omega, hr9, (by first | exact hi9 | (rw [List.length_append] at hi9; exact hi9)), hB9⟩
          case measure => simp [intOf]; omega
        · by_cases e2 : K = 2
          · subst e2
            go_wp2_with fail
            refine (atL _ _ N _ I _ hra).mono ?_
            rintro e w3 ⟨rfl, q, rfl⟩
            have hrq := hra.grown (below_drewN (Below.refl _ _) q)
            have hiq := (hia.grown (below_drewN (Below.refl _ _) q) (Nat.le_refl _))
            have hzq : (wr.alloc (.cells #[.int .i64 2, .int .i64 I, .int .i64 X] 35)).heap.size ≤ ((wr.alloc (.cells #[.int .i64 2, .int .i64 I, .int .i64 X] 35)).drewN q).heap.size := Nat.le_refl _
            have hzq2 : S + 2 ≤ ((wr.alloc (.cells #[.int .i64 2, .int .i64 I, .int .i64 X] 35)).drewN q).heap.size := by omega
            have hBq := below_drewN hBa q
            go_wp2_with fail
            refine (ref_take _ _ _ _ _ _ hiq hzq2 hzq (by omega)).mono ?_
            rintro e w4 ⟨v4, rfl, hb4, hi4⟩
            have hrT := hrq.grown hb4
            have hiT := (hiq.grown hb4 (Nat.le_refl _)).wide hb4.size
            have hBT := hBq.trans (hb4.mono hBq.size)
            go_wp2_with fail
            refine (seq_any _ _).mono ?_
            rintro e y1 ⟨rfl, rfl⟩
            go_wp2_with fail
            refine (allL _ _ _ N _ _ (Boxed.new _ _ _) (hrT.grown (box_below _ _))).mono ?_
            rintro e y2 ⟨vA, rfl, hiA, hyA⟩
            have hgA := (box_below _ _).trans (hyA.mono (by rw [World.size_alloc]; omega))
            rw [World.size_alloc] at hiA
            clear hyA
            have hzA := hgA.size
            have hrA := hrT.grown hgA
            have hiB := hiT.grown hgA (Nat.le_refl _)
            have hLA := hrA.len
            have hBA := hBT.trans (hgA.mono hBT.size)
            go_wp2_with fail
            refine (same_any _ _ _ _ _ _ _ _ _ hiA hiB (by omega)).mono ?_
            rintro e y3 ⟨rfl, hg3⟩
            rw [decide_eq_true rfl]
            have hr3 := hrA.grown hg3
            have hi3 := (hiB.grown hg3 (by omega)).wide (hi' := y3.heap.size) (by have := hg3.size; omega)
            have hB3 := hBA.trans (hg3.mono hBA.size)
            go_wp2_with fail
            refine (lenL _ _ _ _ _ hr3).mono ?_
            rintro e y4 ⟨rfl, rfl⟩
            obtain ⟨aT, cT, hvT, _⟩ := hiT
            cases hvT
            go_wp2
            go_roundw
            case rel => exact ⟨k + 1, _, by go_num, by omega, hr3, (by first | exact hi3 | (rw [List.length_append] at hi3; exact hi3)), hB3⟩
            case measure => simp [intOf]; omega
          · by_cases e3 : K = 3
            · subst e3
              go_wp2_with fail
              obtain ⟨av, cv, hv, hcv⟩ := id hia
              subst hv
              refine (dropL (S + 1) S N wr.heap.size X L _ hra hcX (by omega) (by omega)).mono ?_
              rintro e w3 ⟨rfl, ht3, hr3⟩
              have hi3 := hia.turned ht3 (Nat.le_refl _) (by omega) (by omega)
              have hz3 := ht3.size
              have hB3 := hBa.trans (ht3.below (by omega) (by omega) (by omega))
              have hcX3 : w3.cell? ⟨wr.heap.size, 2, none⟩ = some (.int .i64 X) := (ht3.blk (Blk.new wr 35 _) (by omega) (by omega)).cell 2
              have hkl : (kept X L).length ≤ L.length := List.length_filter_le _ _
              obtain ⟨D, hD⟩ : ∃ D, L.length - (kept X L).length = D := ⟨_, rfl⟩
              rw [hD]
              have HD := Lib.hid hD
              have HKL := Lib.hid hkl
              clear hD hkl hcv
              go_wp2_with fail
              obtain ⟨i0, hin, hz0, hzz1, hzz2⟩ := info_parts info3
              obtain ⟨av', cv', hv', hcv⟩ := id hi3
              cases hv'
              go_loopw [28, 30, 193] (fun out _ j wq => ∃ i : Nat, j = .int .i64 (i : Nat) ∧ i ≤ L.length ∧ wq.ownsRow w3.heap.size 3 1 out (kept X (L.take i)).length ((kept X (L.take i)).map (Value.int .i64)) ∧ Below w3.heap.size w3 wq) (fun _ _ j _ => L.length - (intOf j).toNat)
              case atStart => exact ⟨0, rfl, by omega, World.ownsRow_nil _ _ _ _, Below.refl _ _⟩
              case round =>
                obtain ⟨i, rfl, hi, hown, hbq⟩ := hrel
                by_cases hlti : i < L.length
                · obtain ⟨g, rfl, _, _, hcj⟩ := hcv i hlti
                  have hcx := (hbq.cell (p := ⟨g, i, none⟩) (World.block_lt_of_cell? _ _ hcj)).trans hcj
                  have hcXq := (hbq.cell (World.block_lt_of_cell? _ _ hcX3)).trans hcX3
                  have hy := kept_yes X L i hlti
                  have hn := kept_no X L i hlti
                  have hki := kept_le X L i (by omega)
                  obtain ⟨x, hx⟩ : ∃ x, L.getD i 0 = x := ⟨_, rfl⟩
                  rw [hx] at hcx hy hn
                  have hbz := hbq.size
                  clear hcv hcj
                  cases hq : (third x == third X)
                  · have hn := hn hq
                    have hq' : ((IntKind.u64.wrap x).tmod 3 == (IntKind.u64.wrap X).tmod 3) = false := hq
                    clear hy
                    go_wp2_with (at_builtin; refine wpList_append_own _ rfl _ _ 37 rfl w3.heap.size 3 i0 (.int .i64 0) 1 8 Try.underlying37 hin hz0 hzz1 hzz2 rfl (by decide) _ (kept X (L.take i)).length _ rfl (hown.alloc _) ⟨wr.heap.size, 0, none⟩ 1 1 [.int .i64 x] rfl rfl (cell_one_new _ _ _) (by simp [Value.oneCell']) (by unfold maxLen; omega) (by omega) (by simp; omega) ?_; intro v' w4 hown' hgrow _)
                    have hbel := ((Below.refl _ wr).alloc hbz (.cells #[.int .i64 x] 3)).grown hgrow (by simp; omega) (fun g' hg' => own_base hown hg')
                    refine ⟨⟨i + 1, rfl, by omega, ?_, hbq.trans hbel⟩, by simp [intOf]; omega⟩
                    rw [hn, List.length_append, List.map_append]
                    exact hown'
                  · have hy := hy hq
                    have hq' : ((IntKind.u64.wrap x).tmod 3 == (IntKind.u64.wrap X).tmod 3) = true := hq
                    clear hn
                    go_wp2
                    go_roundw
                    case rel => exact ⟨i + 1, by go_num, by omega, by rw [hy]; exact hown, hbq⟩
                    case measure => simp [intOf]; omega
                · obtain rfl : i = L.length := by omega
                  rw [List.take_length] at hown
                  obtain ⟨ar, cr, hvr, _⟩ := IntsAt.of_own hown
                  subst hvr
                  clear hi hlti hcv
                  have hrT := hr3.grown hbq
                  have hiT := ints_new hown (S + 2) (by omega)
                  have hBT := hB3.trans (hbq.mono hB3.size)
                  have hsub : (L.length : Int) - ((kept X L).length : Int) = (D : Int) := by have := HD.out; have := HKL.out; omega
                  go_wp2_with fail
                  refine (seq_any _ _).mono ?_
                  rintro e y1 ⟨rfl, rfl⟩
                  go_wp2_with fail
                  refine (allL _ _ _ N _ _ (Boxed.new _ _ _) (hrT.grown (box_below _ _))).mono ?_
                  rintro e y2 ⟨vA, rfl, hiA, hyA⟩
                  have hgA := (box_below _ _).trans (hyA.mono (by rw [World.size_alloc]; omega))
                  rw [World.size_alloc] at hiA
                  clear hyA
                  have hzA := hgA.size
                  have hrA := hrT.grown hgA
                  have hiB := hiT.grown hgA (Nat.le_refl _)
                  have hLA := hrA.len
                  have hBA := hBT.trans (hgA.mono hBT.size)
                  go_wp2_with fail
                  refine (same_any _ _ _ _ _ _ _ _ _ hiA hiB (by omega)).mono ?_
                  rintro e y3 ⟨rfl, hg3⟩
                  rw [decide_eq_true rfl]
                  have hr3 := hrA.grown hg3
                  have hi3 := (hiB.grown hg3 (by omega)).wide (hi' := y3.heap.size) (by have := hg3.size; omega)
                  have hB3 := hBA.trans (hg3.mono hBA.size)
                  go_wp2_with fail
                  refine (lenL _ _ _ _ _ hr3).mono ?_
                  rintro e y4 ⟨rfl, rfl⟩
                  obtain ⟨aT, cT, hvT, _⟩ := hiT
                  cases hvT
                  go_wp2
                  go_roundw
                  case rel => exact ⟨k + 1, _, by go_num, by omega, hr3, (by first | exact hi3 | (rw [List.length_append] at hi3; exact hi3)), hB3⟩
                  case measure => simp [intOf]; omega
            · have hrT := hra
              have hiT := hia
              have hBT := hBa
              go_wp2_with fail
              generalize wr.alloc (.cells #[.int .i64 K, .int .i64 I, .int .i64 X] 35) = W at hrT hiT hBT ⊢
              refine (seq_any _ _).mono ?_
              rintro e y1 ⟨rfl, rfl⟩
              go_wp2_with fail
              refine (allL _ _ _ N _ _ (Boxed.new _ _ _) (hrT.grown (box_below _ _))).mono ?_
              rintro e y2 ⟨vA, rfl, hiA, hyA⟩
              have hgA := (box_below _ _).trans (hyA.mono (by rw [World.size_alloc]; omega))
              rw [World.size_alloc] at hiA
              clear hyA
              have hzA := hgA.size
              have hrA := hrT.grown hgA
              have hiB := hiT.grown hgA (Nat.le_refl _)
              have hLA := hrA.len
              have hBA := hBT.trans (hgA.mono hBT.size)
              go_wp2_with fail
              refine (same_any _ _ _ _ _ _ _ _ _ hiA hiB (by omega)).mono ?_
              rintro e y3 ⟨rfl, hg3⟩
              rw [decide_eq_true rfl]
              have hr3 := hrA.grown hg3
              have hi3 := (hiB.grown hg3 (by omega)).wide (hi' := y3.heap.size) (by have := hg3.size; omega)
              have hB3 := hBA.trans (hg3.mono hBA.size)
              go_wp2_with fail
              refine (lenL _ _ _ _ _ hr3).mono ?_
              rintro e y4 ⟨rfl, rfl⟩
              obtain ⟨aT, cT, hvT, _⟩ := hiT
              cases hvT
              go_wp2
              go_roundw
              case rel => exact ⟨k + 1, _, by go_num, by omega, hr3, (by first | exact hi3 | (rw [List.length_append] at hi3; exact hi3)), hB3⟩
              case measure => simp [intOf]; omega
    · obtain rfl : k = len := by omega
      clear ha
      go_wp2
      go_ret
      exact ⟨rfl, hB⟩

end Go.Proofs.Ytgcfpehaabajoaa
