/-
  'all' (the law's): what a ring tells, and whether its places are 0, 1, ..
-/
import Derived.Test.YtgcfpehaabajoaaIter
namespace Go.Proofs.Ytgcfpehaabajoaa
open Go.RowKit Go.Shelf

attribute [local go_sem] Oper.semAt_some

/-- Are the places 0, 1, ..? -/
def okOf (pre : List (Nat × Int)) : Bool := decide (pre.map Prod.fst = List.range pre.length)
theorem okOf_snoc (pre : List (Nat × Int)) (x : Nat × Int) : okOf (pre ++ [x]) = (okOf pre && (x.1 == pre.length)) := by
  unfold okOf
  rw [List.map_append, List.length_append]
  simp only [List.map_cons, List.map_nil, List.length_cons, List.length_nil, Nat.zero_add, List.range_succ]
  by_cases h : pre.map Prod.fst = List.range pre.length
  · rw [h]
    by_cases e : x.1 = pre.length <;> simp [e]
  · have : ¬ (pre.map Prod.fst ++ [x.1] = List.range pre.length ++ [pre.length]) := fun he => h (List.append_inj' he rfl).1
    simp [h, this]
theorem okOf_upto (c : Nat → Int) (m : Nat) : okOf (upto (fun j => (j, c j)) m) = true := by
  unfold okOf upto
  simp [Function.comp_def]
theorem snd_upto (c : Nat → Int) (m : Nat) : (upto (fun j => (j, c j)) m).map (fun p => Value.int .i64 p.2) = (upto c m).map (Value.int .i64) := by
  simp [upto]

theorem boxed_kept {β : Type} (B : Nat) (t : TypeId) (v : β → Value) : Own (fun s W => Boxed W B t (v s)) := fun s X Y row hv hg hrow => by
  refine hv.kept hg (fun e' => ?_)
  obtain ⟨o, ho, hc⟩ := hrow B e'.symm
  rw [show X.heap[B]? = _ from hv] at ho; cases ho; cases hc

theorem Boxed.other {W : World} {B B' : Nat} {t : TypeId} {v : Value} (h : Boxed W B t v) (hne : B ≠ B') (u : Value) : Boxed (W.setCell ⟨B', 0, none⟩ u) B t v := (Below.heap_setCell _ _ _ _ hne).trans h

theorem int_beq (a b : Nat) : ((a : Int) == (b : Int)) = (a == b) := by
  rw [Bool.eq_iff_iff, beq_iff_eq, beq_iff_eq]; exact Int.ofNat_inj

theorem cell_one_set (W : World) (p : Addr) (u x : Value) (t : TypeId) : ∀ (j : Nat) (y : Value), [x][j]? = some y → ((W.setCell p u).alloc (.cells #[x] t)).cell? (Addr.add ⟨W.heap.size, 0, none⟩ j) = some y := by
  have h := cell_one_new (W.setCell p u) x t
  have e : (W.setCell p u).heap.size = W.heap.size := by simp [World.setCell]
  rw [e] at h
  exact h

/-- One round of 'all': the flag's store, the append, the slice's store. -/
theorem all_step {W w1 : World} {n₀ m k : Nat} {v v' k0 u : Value} {xs ys : List Value} {tmp : Obj} (hv : Boxed W n₀ 37 v) (hk : Boxed W (n₀ + 1) 4 k0) (hrow : W.ownsRow n₀ 3 1 v k xs) (hn₀ : n₀ ≤ W.heap.size)
    (hown' : w1.ownsRow n₀ 3 1 v' m ys) (hgrow : ((W.setCell ⟨n₀ + 1, 0, none⟩ u).alloc tmp).grownBy w1 v.ownBlock) :
    Boxed w1 n₀ 37 v ∧ Boxed (w1.setCell ⟨n₀, 0, none⟩ v') n₀ 37 v' ∧ (w1.setCell ⟨n₀, 0, none⟩ v').ownsRow n₀ 3 1 v' m ys ∧ Boxed (w1.setCell ⟨n₀, 0, none⟩ v') (n₀ + 1) 4 u ∧
      KeepsOthers W (w1.setCell ⟨n₀, 0, none⟩ v') ∧ Below n₀ W (w1.setCell ⟨n₀, 0, none⟩ v') := by
  have hv0 := hv.other (B' := n₀ + 1) (by omega) u
  have hrow0 := hrow.kept (grownBy_setCell' W (n₀ + 1) u) (.inr (hk.not_row (by decide) hrow).symm)
  obtain ⟨a, b, c, d, e⟩ := hv0.appended (by decide) hrow0 (by simpa using hn₀) (Nat.le_refl _) hown' hgrow
  have hk0 := hk.set u
  have hk1 : Boxed w1 (n₀ + 1) 4 u := (hk0.alloc tmp).kept hgrow (hk0.not_row (by decide) hrow0)
  exact ⟨a, b, c, hk1.other (by omega) _, (KeepsOthers.setCell _ _ _).trans d, ((Below.refl n₀ W).setCell (p := ⟨n₀ + 1, 0, none⟩) (by simp) u).trans e⟩

set_option maxRecDepth 100000 in
set_option maxHeartbeats 2000000 in
theorem all_any (Bn b g N f m : Nat) (raw : List Int) (c : Nat → Int) (w : World) (hBn : Boxed w Bn 24 (.pointer (some ⟨b, 0, none⟩))) (hR : IsRing w b g N f m raw c) :
    Calls Try.prog 12 #[.func (.func 22) #[] #[.pointer (some ⟨Bn, 0, none⟩)]] w fun e w' => ∃ v, e = .returned (.tuple #[v, .bool true]) ∧
      w'.ownsRow w.heap.size 3 1 v m ((upto c m).map (Value.int .i64)) ∧ Below w.heap.size w w' := by
  have hN := hR.hh.hN
  have hm := hR.hh.hn
  have hBl := hBn.lt
  have hbl := hR.hb.lt
  have hgl := hR.hg.lt
  obtain ⟨i0, hi, hz0, hz1, hz2⟩ := info_parts info3
  refine (callsIn_wide (n := 5)).1 ?_
  refine callsIn_of_wp_marks Try.func12 rfl trivial ?_ rfl
  simp only [Try.ntmps12, List.size_toArray, List.length_cons, List.length_nil, Nat.reduceAdd, Nat.reduceSub, Array.replicate_succ, Array.replicate_zero, List.push_toArray, List.append_toArray, List.nil_append, List.cons_append]
  gi_wp2
  have bO := Boxed.new w 37 (.slice none 0 0)
  have bK := Boxed.new (w.alloc (.cells #[.slice none 0 0] 37)) 4 (.bool true)
  rw [World.size_alloc] at bK
  have hB0 : Below w.heap.size w ((w.alloc (.cells #[.slice none 0 0] 37)).alloc (.cells #[.bool true] 4)) := ((Below.refl _ w).alloc (Nat.le_refl _) _).alloc (by simp) _
  refine wpIn_rangeFunc_ownF rfl (by omega) (gf := 22) (lb := #[.pointer (some ⟨Bn, 0, none⟩)]) rfl trivial (enters_of Try.func22 (by kernel_rfl) rfl)
    (all_stops 4 (by omega) Bn b g N f m raw c _ ((hBn.alloc _).alloc _) ⟨(hR.hb.alloc _).alloc _, (hR.hg.alloc _).alloc _, hR.hh⟩) (fun h k => h.trans k) (same3_b (by simp; omega) (by simp; omega) (by simp; omega)) (Below.refl _ _) (fun _ => rfl)
    (fun (pre : List (Nat × Int)) W => ((∃ v, Boxed W w.heap.size 37 v ∧ W.ownsRow w.heap.size 3 1 v pre.length (pre.map (fun p => Value.int .i64 p.2)) ∧ True) ∧ Boxed W (w.heap.size + 1) 4 (.bool (okOf pre))) ∧ Below w.heap.size w W)
    (fun _ _ _ => False)
    (OwnFrom.and (OwnFrom.and (Own.from (holdsRow_own w.heap.size w.heap.size 37 3 1 (fun (pre : List (Nat × Int)) => pre.length) (fun (pre : List (Nat × Int)) => pre.map (fun p => Value.int .i64 p.2)) (fun _ _ => True)) _) (Own.from (boxed_kept _ _ (fun pre => Value.bool (okOf pre))) _)) (ownFrom_below (Nat.le_refl _) (by simp; omega)))
    (fun _ _ _ _ _ hs _ _ => hs)
    ⟨⟨⟨_, bO.alloc _, World.ownsRow_nil _ _ _ _, trivial⟩, bK⟩, hB0⟩
    (fun x => { tmps := #[.func (.func 22) #[] #[.pointer (some ⟨Bn, 0, none⟩)], undef, .slice none 0 0, .bool false, .pointer (some ⟨w.heap.size, 0, none⟩), .pointer (some ⟨w.heap.size + 1, 0, none⟩), .int .i64 (x.1 : Int), .int .i64 x.2, .func (.func 22) #[] #[.pointer (some ⟨Bn, 0, none⟩)], .int .i64 (x.1 : Int), .int .i64 x.2, undef, undef, undef, undef, undef, undef, undef, undef, undef, undef, undef, undef, undef], defers := [] }) ?assign ?body ?done ?stop
  case assign =>
    intro l x W K hK
    gi_wp2
    exact hK
  case body =>
    rintro l pre x W ⟨⟨⟨v, hv, hrow, _⟩, hk⟩, hB⟩ hlt
    obtain ⟨a, cap, rfl⟩ : ∃ a cap, v = .slice a pre.length cap := by
      rcases hrow.2 with ⟨rfl, h0⟩ | ⟨g', cap, _, rfl, _⟩
      · exact ⟨none, 0, by rw [h0]⟩
      · exact ⟨_, cap, rfl⟩
    have hc := hv.cell
    have hf := hv.frozen
    have hkc := hk.cell
    have hkf := hk.frozen
    have hl1 := hv.lt
    have hl2 := hk.lt
    have hpl : pre.length < 1024 := by omega
    cases hok : okOf pre
    · rw [hok] at hk hkc
      gi_wp2_with (gi_at_builtin; refine wpListIn_append_own _ rfl _ _ 37 rfl w.heap.size 3 i0 (.int .i64 0) 1 8 Try.underlying37 hi hz0 hz1 hz2 rfl (by decide) _ pre.length _ rfl ((hrow.kept (grownBy_setCell' W (w.heap.size + 1) _) (.inr (hk.not_row (by decide) hrow).symm)).alloc _) ⟨W.heap.size, 0, none⟩ 1 1 [.int .i64 x.2] rfl rfl (cell_one_set _ _ _ _ _) (by simp [Value.oneCell']) (by unfold maxLen; omega) (by omega) (by have := hB.size; simp; omega) ?_; intro v' w1 hown' hgrow _; obtain ⟨g', cap', rfl⟩ := ownsRow_succ hown'; obtain ⟨hv1, hv2, hr2, hk2, hko, hb2⟩ := all_step hv hk hrow hB.size hown' hgrow; have hc1 := hv1.cell; have hf1 := hv1.frozen)
      exact ⟨hko, Same3.below hb2 hBl hbl hgl, ⟨⟨_, hv2, by simpa using hr2, trivial⟩, by rw [okOf_snoc, hok]; exact hk2⟩, hB.trans hb2⟩
    · rw [hok] at hk hkc
      gi_wp2_with (gi_at_builtin; refine wpListIn_append_own _ rfl _ _ 37 rfl w.heap.size 3 i0 (.int .i64 0) 1 8 Try.underlying37 hi hz0 hz1 hz2 rfl (by decide) _ pre.length _ rfl ((hrow.kept (grownBy_setCell' W (w.heap.size + 1) _) (.inr (hk.not_row (by decide) hrow).symm)).alloc _) ⟨W.heap.size, 0, none⟩ 1 1 [.int .i64 x.2] rfl rfl (cell_one_set _ _ _ _ _) (by simp [Value.oneCell']) (by unfold maxLen; omega) (by omega) (by have := hB.size; simp; omega) ?_; intro v' w1 hown' hgrow _; obtain ⟨g', cap', rfl⟩ := ownsRow_succ hown'; obtain ⟨hv1, hv2, hr2, hk2, hko, hb2⟩ := all_step hv hk hrow hB.size hown' hgrow; have hc1 := hv1.cell; have hf1 := hv1.frozen)
      exact ⟨hko, Same3.below hb2 hBl hbl hgl, ⟨⟨_, hv2, by simpa using hr2, trivial⟩, by rw [okOf_snoc, hok, Bool.true_and, ← int_beq]; exact hk2⟩, hB.trans hb2⟩
  case done =>
    rintro D ys W hD rfl ⟨⟨⟨v, hv, hrow, _⟩, hk⟩, hB⟩ hK
    rw [okOf_upto] at hk
    rw [upto_length, snd_upto] at hrow
    obtain ⟨a, cap, rfl⟩ : ∃ a cap, v = .slice a m cap := by
      rcases hrow.2 with ⟨rfl, h0⟩ | ⟨g', cap, _, rfl, _⟩
      · exact ⟨none, 0, by rw [h0]⟩
      · exact ⟨_, cap, rfl⟩
    have hc := hv.cell
    have hkc := hk.cell
    gi_wp2
    gi_region
    all_goals gi_wp2
    have hK2 : W.drew.heap[D]? = some (.deferred (some [])) := hK
    refine ⟨by simp, .inl ⟨_, _, rfl, run_takeDeferred hK2, ?_⟩⟩
    refine ⟨.tuple #[.slice a m cap, .bool true], by simp [results, Try.f12, go_sem], .slice a m cap, rfl, ownsRow_putObj (W := W.drew) hrow _ hK2 rfl, (below_drewN hB 1).trans (belowK_b (w := w) (Nat.le_refl _) W.drew D _ _ (by simp at hD; omega) hK2 rfl rfl)⟩
  case stop =>
    rintro D c pre W _ _ h _
    exact h.elim

end Go.Proofs.Ytgcfpehaabajoaa
