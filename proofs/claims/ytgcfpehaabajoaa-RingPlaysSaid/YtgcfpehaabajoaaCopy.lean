/-
  Copy: a ring apart that tells the same (at a function that hands its argument back).
-/
import Derived.Test.YtgcfpehaabajoaaAll
namespace Go.Proofs.Ytgcfpehaabajoaa
open Go.RowKit Go.Shelf

attribute [local go_sem] Oper.semAt_some

theorem id_any (x : Int) (w : World) : Calls Try.prog 15 #[.int .i64 x] w fun e w' => e = .returned (.int .i64 x) ∧ w = w' := by
  go_enter Try.func15, Try.ntmps15
  go_wp2
  go_ret
  exact ⟨rfl, rfl⟩

theorem blk_kept {W W' : World} {row : Option Nat} {g : Nat} {t : TypeId} {cs : Array Value} (h : Blk W g t cs) (hg : W.grownBy W' row) (hrow : ∀ r, row = some r → ∃ o : Obj, W.heap[r]? = some o ∧ o.isCells = false) : Blk W' g t cs :=
  (grownBy_keeps_cells hg hrow h rfl).trans h

theorem ring_own {β : Type} (b g N f : Nat) (m : β → Nat) (c : β → Nat → Int) : Own (fun s W => ∃ raw, IsRing W b g N f (m s) raw (c s)) := by
  rintro s X Y row ⟨raw, h⟩ hg hrow
  exact ⟨raw, blk_kept h.hb hg hrow, blk_kept h.hg hg hrow, h.hh⟩

theorem Turn.keeps {b g N f m : Nat} {raw : List Int} {c : Nat → Int} {W W' : World} (h : Turn b g W W') (hr : IsRing W b g N f m raw c) : KeepsOthers W W' := by
  refine ⟨Nat.le_of_eq h.size.symm, fun k o hk hc => ?_⟩
  by_cases e : k = b
  · subst e
    have hb : W.heap[k]? = _ := hr.hb
    rw [hb] at hk; cases hk; cases hc
  · by_cases e2 : k = g
    · subst e2
      have hb : W.heap[k]? = _ := hr.hg
      rw [hb] at hk; cases hk; cases hc
    · exact (h.block k e e2).trans hk

def snd_ (pre : List (Nat × Int)) (j : Nat) : Int := (pre.getD j (0, 0)).2
theorem snd_snoc (pre : List (Nat × Int)) (x : Nat × Int) (j : Nat) (hj : j < pre.length + 1) : (if j = pre.length then x.2 else snd_ pre j) = snd_ (pre ++ [x]) j := by
  unfold snd_
  by_cases e : j = pre.length
  · subst e; simp
  · rw [if_neg e]; simp [List.getElem?_append_left (show j < pre.length by omega)]
theorem snd_upto_ (c : Nat → Int) (m j : Nat) (hj : j < m) : snd_ (upto (fun j => (j, c j)) m) j = c j := by
  unfold snd_ upto
  simp [hj]

set_option maxRecDepth 100000 in
set_option maxHeartbeats 2000000 in
theorem copy_any (b g N f m : Nat) (raw : List Int) (c : Nat → Int) (w : World) (hR : IsRing w b g N f m raw c) :
    Calls Try.prog 14 #[.pointer (some ⟨b, 0, none⟩), .func (.func 15) #[] #[]] w fun e w' => ∃ b' g' raw', e = .returned (.pointer (some ⟨b', 0, none⟩)) ∧ w.heap.size ≤ b' ∧ w.heap.size ≤ g' ∧
      IsRing w' b' g' N 0 m raw' c ∧ Below w.heap.size w w' := by
  have hN := hR.hh.hN
  have hf := hR.hh.hf
  have hm := hR.hh.hn
  have hbl := hR.hb.lt
  have hgl := hR.hg.lt
  have h0 := hR.hb.cell 0
  simp at h0
  refine (callsIn_wide (n := 5)).1 ?_
  refine callsIn_of_wp_marks Try.func14 rfl trivial ?_ rfl
  simp only [Try.ntmps14, List.size_toArray, List.length_cons, List.length_nil, Nat.reduceAdd, Nat.reduceSub, Array.replicate_succ, Array.replicate_zero, List.push_toArray, List.append_toArray, List.nil_append, List.cons_append]
  gi_wp2_with (first
    | (refine ⟨trivial, ?_⟩; gi_at_call 6; refine (callsIn_wide.2 (new_yes N _ (by omega) hN)).mono ?_; rintro e w1 ⟨rfl, hb1, hz1, hr1⟩)
    | (refine ⟨trivial, ?_⟩; gi_at_call 13; refine (callsIn_wide.2 (seq_any _ _)).mono ?_; rintro e w' ⟨rfl, rfl⟩))
  have bT := Boxed.new w 44 (.func (.func 15) #[] #[])
  simp only [World.size_alloc] at hb1 hz1 hr1
  have bT1 : Boxed w1 w.heap.size 44 (.func (.func 15) #[] #[]) := (hb1.block _ (by omega)).trans bT
  have bO := Boxed.new w1 24 (.pointer (some ⟨w.heap.size + 1 + 1, 0, none⟩))
  have bN := Boxed.new (w1.alloc (.cells #[.pointer (some ⟨w.heap.size + 1 + 1, 0, none⟩)] 24)) 24 (.pointer (some ⟨b, 0, none⟩))
  rw [World.size_alloc] at bN
  rw [hz1] at bO bN
  have hW1 : Below w.heap.size w w1 := ((Below.refl _ w).alloc (Nat.le_refl _) _).trans (hb1.mono (by omega))
  have hB0 : Below w.heap.size w ((w1.alloc (.cells #[.pointer (some ⟨w.heap.size + 1 + 1, 0, none⟩)] 24)).alloc (.cells #[.pointer (some ⟨b, 0, none⟩)] 24)) := (hW1.alloc (by omega) _).alloc (by simp; omega) _
  refine wpIn_rangeFunc_ownF rfl (by omega) (gf := 22) (lb := #[.pointer (some ⟨w.heap.size + 1 + 2 + 1, 0, none⟩)]) rfl trivial (enters_of Try.func22 (by kernel_rfl) rfl)
    (all_stops 4 (by omega) (w.heap.size + 1 + 2 + 1) b g N f m raw c _ bN ⟨hR.hb.below hB0 hbl, hR.hg.below hB0 hgl, hR.hh⟩) (fun h k => h.trans k) (same3_b (by simp; omega) (by simp; omega) (by simp; omega)) (Below.refl _ _) (fun _ => rfl)
    (fun (pre : List (Nat × Int)) W => ((∃ raw', IsRing W (w.heap.size + 1 + 1) (w.heap.size + 1) N 0 pre.length raw' (snd_ pre)) ∧ Boxed W w.heap.size 44 (.func (.func 15) #[] #[]) ∧ Boxed W (w.heap.size + 1 + 2) 24 (.pointer (some ⟨w.heap.size + 1 + 1, 0, none⟩))) ∧ Below w.heap.size w W)
    (fun _ _ _ => False)
    (OwnFrom.and (OwnFrom.and (Own.from (ring_own _ _ _ _ (fun (pre : List (Nat × Int)) => pre.length) snd_) _) (OwnFrom.and (Own.from (boxed_kept _ _ (fun _ => Value.func (.func 15) #[] #[])) _) (Own.from (boxed_kept _ _ (fun _ => Value.pointer (some ⟨w.heap.size + 1 + 1, 0, none⟩))) _))) (ownFrom_below (Nat.le_refl _) (by simp; omega)))
    (fun _ _ _ _ _ hs _ _ => hs)
    ⟨⟨⟨_, (hr1.hb.alloc _).alloc _, (hr1.hg.alloc _).alloc _, hr1.hh.congr fun j hj => absurd hj (by simp)⟩, (bT1.alloc _).alloc _, bO.alloc _⟩, hB0⟩
    (fun x => { tmps := #[.pointer (some ⟨b, 0, none⟩), .func (.func 15) #[] #[], undef, .pointer (some ⟨w.heap.size, 0, none⟩), .pointer none, .pointer (some ⟨w.heap.size + 1 + 2, 0, none⟩), undef, .int .i64 x.2, .pointer (some ⟨b, 0, none⟩), .bool false, .pointer (some ⟨b, 0, none⟩), .pointer (some ⟨b, 0, none⟩), .pointer (some ⟨b, 0, none⟩), .slice (some ⟨g, 0, none⟩) N N, .int .i64 N, .pointer (some ⟨w.heap.size + 1 + 1, 0, none⟩), .pointer (some ⟨b, 0, none⟩), .func (.func 22) #[] #[.pointer (some ⟨w.heap.size + 1 + 2 + 1, 0, none⟩)], .int .i64 (x.1 : Int), .int .i64 x.2, undef, undef, undef, undef, undef, undef], defers := [] }) ?assign ?body ?done ?stop
  case assign =>
    intro l x W K hK
    gi_wp2
    exact hK
  case body =>
    rintro l pre x W ⟨⟨⟨raw', hr⟩, hT, hO⟩, hB⟩ hlt
    have hTc := hT.cell
    have hOc := hO.cell
    have hrd : IsRing W.drew (w.heap.size + 1 + 1) (w.heap.size + 1) N 0 pre.length raw' (snd_ pre) := ⟨hr.hb, hr.hg, hr.hh⟩
    have hroom : pre.length < N := by omega
    have hput := callsIn_wide (n := 2) |>.2 (put_room _ _ _ _ _ x.2 _ _ _ hrd hroom)
    gi_wp2
    gi_region_with (first
      | (refine ⟨trivial, ?_⟩; gi_at_call 15; refine (callsIn_wide.2 (id_any _ _)).mono ?_; rintro e w' ⟨rfl, rfl⟩)
      | (refine ⟨trivial, ?_⟩; gi_at_call 8; refine (callsIn_wide.2 (put_room _ _ _ _ _ x.2 _ _ _ hrd hroom)).mono ?_; rintro e w' ⟨rfl, ht, raw2, hr2⟩))
    all_goals
      refine ⟨(KeepsOthers.drew W).trans (ht.keeps hrd), ⟨ht.block _ (by omega) (by omega), ht.block _ (by omega) (by omega), ht.block _ (by omega) (by omega)⟩, ⟨⟨raw2, ?_⟩, (ht.block _ (by omega) (by omega)).trans hT, (ht.block _ (by omega) (by omega)).trans hO⟩, (below_drewN hB 1).trans (ht.below (by omega) (by omega))⟩
      rw [List.length_append]
      exact ⟨hr2.hb, hr2.hg, hr2.hh.congr fun j hj => snd_snoc pre x j hj⟩
  case done =>
    rintro D ys W hD rfl ⟨⟨⟨raw', hr⟩, hT, hO⟩, hB⟩ hK
    rw [upto_length] at hr
    have hOc := hO.cell
    gi_wp2
    refine ⟨by simp, .inl ⟨_, _, rfl, run_takeDeferred hK, ?_⟩⟩
    have hg' := grownBy_putObj' W D (.deferred none)
    have hrow : ∀ r, some D = some r → ∃ o : Obj, W.heap[r]? = some o ∧ o.isCells = false := fun r e => by cases e; exact ⟨_, hK, rfl⟩
    exact ⟨_, results_tmp rfl _ _ _, w.heap.size + 1 + 1, w.heap.size + 1, raw', rfl, by omega, by omega,
      ⟨blk_kept hr.hb hg' hrow, blk_kept hr.hg hg' hrow, hr.hh.congr fun j hj => snd_upto_ c m j hj⟩, hB.trans (belowK_b (w := w) (Nat.le_refl _) W D _ _ (by simp at hD; omega) hK rfl rfl)⟩
  case stop =>
    rintro D c pre W _ _ h _
    exact h.elim

end Go.Proofs.Ytgcfpehaabajoaa
