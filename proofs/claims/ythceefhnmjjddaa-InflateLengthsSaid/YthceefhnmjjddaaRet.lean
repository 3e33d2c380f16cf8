/-
  The region that gives two tables back, over whatever frame.
-/
import Derived.Test.YthceefhnmjjddaaFixed
namespace Go.Proofs.Ythceefhnmjjddaa
open Go.RowKit

def retOps (p q x y : Tmp) (s0 s1 s2 s3 : String) : Array Oper :=
  #[{ dst := some x, op := .load 55 (.tmp p), type := 55, pos := s0, after := #[], guard := none },
    { dst := some y, op := .load 55 (.tmp q), type := 55, pos := s1, after := #[{ on := 2, ground := .gcOnly .lateStores }], guard := none },
    { dst := none, op := .store 55 (.tmp p) (.tmp x), type := 0, pos := s2, after := #[{ on := 0, ground := .data }, { on := 0, ground := .phase }, { on := 1, ground := .textOnly .lateStores }], guard := none },
    { dst := none, op := .store 55 (.tmp q) (.tmp y), type := 0, pos := s3, after := #[{ on := 1, ground := .data }, { on := 2, ground := .chain }, { on := 0, ground := .phase }, { on := 1, ground := .phase }, { on := 2, ground := .phase }], guard := none }]

theorem eval_put_other (a : Act) (x p : Tmp) (v : Value) (h : p ≠ x) : (a.put (some x) v).eval (.tmp p) = a.eval (.tmp p) := by
  simp [Act.put, Act.eval, Ne.symm h]
theorem eval_put_same (a : Act) (x : Tmp) (v : Value) (h : x < a.tmps.size) : (a.put (some x) v).eval (.tmp x) = v := by
  simp [Act.put, Act.eval, h]
theorem ret_two {id : Nat} {p q x y : Tmp} {s0 s1 s2 s3 : String} {Q : Exit → Act → World → Prop} {a : Act} {w : World} {g0 g1 : Nat} {cs0 cs1 : Array Value}
    (h0 : a.eval (.tmp p) = .pointer (some ⟨g0, 0, none⟩)) (h1 : a.eval (.tmp q) = .pointer (some ⟨g1, 0, none⟩)) (hx : x < a.tmps.size) (hy : y < a.tmps.size) (hpx : p ≠ x) (hpy : p ≠ y) (hqx : q ≠ x) (hqy : q ≠ y) (hxy : x ≠ y)
    (hb0 : Blk w g0 55 cs0) (hb1 : Blk w g1 55 cs1) (hz0 : cs0.size = 17) (hz1 : cs1.size = 17) (ho0 : cs0.all (·.oneCell') = true) (ho1 : cs1.all (·.oneCell') = true)
    (hK : ∀ a' : Act, a'.eval (.tmp p) = .pointer (some ⟨g0, 0, none⟩) → a'.eval (.tmp q) = .pointer (some ⟨g1, 0, none⟩) → a'.defers = a.defers → Q .normal a' w.drew) :
    (Code.region id (retOps p q x y s0 s1 s2 s3) true).wp Try.prog Q a w := by
  have hb0' : Blk w.drew g0 55 cs0 := hb0
  have hb1' : Blk w.drew g1 55 cs1 := hb1
  have hi0 : (Try.prog.info? 55).map (·.size) = some cs0.size := by rw [hz0]; exact ti55
  have hi1 : (Try.prog.info? 55).map (·.size) = some cs1.size := by rw [hz1]; exact ti55
  unfold retOps
  refine wp_region_any (by kernel_rfl) ?_
  change wpAny _ _ _ _ 4 _ _ (World.drew _)
  refine wpAny_ready (rs := [0, 1]) (by kernel_rfl) (by simp) ?_
  have sz : ∀ (c : Act) (d : Tmp) (v : Value), (c.put (some d) v).tmps.size = c.tmps.size := by intro c d v; simp [Act.put]
  obtain ⟨c, hc⟩ : ∃ c, a.put (some x) (.agg cs0) = c := ⟨_, rfl⟩
  have c0 : c.eval (.tmp p) = .pointer (some ⟨g0, 0, none⟩) := by rw [← hc]; exact (eval_put_other a x p _ hpx).trans h0
  have c1 : c.eval (.tmp q) = .pointer (some ⟨g1, 0, none⟩) := by rw [← hc]; exact (eval_put_other a x q _ hqx).trans h1
  have cx : c.eval (.tmp x) = .agg cs0 := by rw [← hc]; exact eval_put_same a x _ hx
  have cd : c.defers = a.defers := by rw [← hc]; rfl
  have cs : c.tmps.size = a.tmps.size := by rw [← hc]; exact sz _ _ _
  obtain ⟨d, hd⟩ : ∃ d, c.put (some y) (.agg cs1) = d := ⟨_, rfl⟩
  have d0 : d.eval (.tmp p) = .pointer (some ⟨g0, 0, none⟩) := by rw [← hd]; exact (eval_put_other c y p _ hpy).trans c0
  have d1 : d.eval (.tmp q) = .pointer (some ⟨g1, 0, none⟩) := by rw [← hd]; exact (eval_put_other c y q _ hqy).trans c1
  have dx : d.eval (.tmp x) = .agg cs0 := by rw [← hd]; exact (eval_put_other c y x _ hxy).trans cx
  have dy : d.eval (.tmp y) = .agg cs1 := by rw [← hd]; exact eval_put_same c y _ (by rw [cs]; exact hy)
  have dd : d.defers = a.defers := by rw [← hd]; exact cd
  obtain ⟨f, hf⟩ : ∃ f, a.put (some y) (.agg cs1) = f := ⟨_, rfl⟩
  have f0 : f.eval (.tmp p) = .pointer (some ⟨g0, 0, none⟩) := by rw [← hf]; exact (eval_put_other a y p _ hpy).trans h0
  have f1 : f.eval (.tmp q) = .pointer (some ⟨g1, 0, none⟩) := by rw [← hf]; exact (eval_put_other a y q _ hqy).trans h1
  have fy : f.eval (.tmp y) = .agg cs1 := by rw [← hf]; exact eval_put_same a y _ hy
  have fd : f.defers = a.defers := by rw [← hf]; rfl
  have fs : f.tmps.size = a.tmps.size := by rw [← hf]; exact sz _ _ _
  obtain ⟨g, hg⟩ : ∃ g, f.put (some x) (.agg cs0) = g := ⟨_, rfl⟩
  have g0' : g.eval (.tmp p) = .pointer (some ⟨g0, 0, none⟩) := by rw [← hg]; exact (eval_put_other f x p _ hpx).trans f0
  have g1' : g.eval (.tmp q) = .pointer (some ⟨g1, 0, none⟩) := by rw [← hg]; exact (eval_put_other f x q _ hqx).trans f1
  have gx : g.eval (.tmp x) = .agg cs0 := by rw [← hg]; exact eval_put_same f x _ (by rw [fs]; exact hx)
  have gy : g.eval (.tmp y) = .agg cs1 := by rw [← hg]; exact (eval_put_other f x y _ (Ne.symm hxy)).trans fy
  have gd : g.defers = a.defers := by rw [← hg]; exact fd
  refine AllReady.cons (o := { dst := some x, op := .load 55 (.tmp p), type := 55, pos := s0, after := #[], guard := none }) rfl (fun K hK1 => ?_) (AllReady.cons (o := { dst := some y, op := .load 55 (.tmp q), type := 55, pos := s1, after := #[{ on := 2, ground := .gcOnly .lateStores }], guard := none }) rfl (fun K hK1 => ?_) AllReady.nil)
  · refine step_load_row rfl 55 (.tmp p) rfl g0 h0 55 cs0 (0, 0) _ hb0' Try.underlying55 rfl hi0 ?_
    refine hK1 _ _ ?_
    clear hK1 K
    change wpAny _ _ _ _ 3 _ (a.put (some x) (.agg cs0)) _
    rw [hc]
    refine wpAny_ready (rs := [1, 2]) (by kernel_rfl) (by simp) ?_
    refine AllReady.cons (o := { dst := some y, op := .load 55 (.tmp q), type := 55, pos := s1, after := #[{ on := 2, ground := .gcOnly .lateStores }], guard := none }) rfl (fun K hK1 => ?_) (AllReady.cons (o := { dst := none, op := .store 55 (.tmp p) (.tmp x), type := 0, pos := s2, after := #[{ on := 0, ground := .data }, { on := 0, ground := .phase }, { on := 1, ground := .textOnly .lateStores }], guard := none }) rfl (fun K hK1 => ?_) AllReady.nil)
    · refine step_load_row rfl 55 (.tmp q) rfl g1 c1 55 cs1 (0, 0) _ hb1' Try.underlying55 rfl hi1 ?_
      refine hK1 _ _ ?_
      clear hK1 K
      change wpAny _ _ _ _ 2 _ (c.put (some y) (.agg cs1)) _
      rw [hd]
      refine wpAny_ready (rs := [2]) (by kernel_rfl) (by simp) (AllReady.cons (o := { dst := none, op := .store 55 (.tmp p) (.tmp x), type := 0, pos := s2, after := #[{ on := 0, ground := .data }, { on := 0, ground := .phase }, { on := 1, ground := .textOnly .lateStores }], guard := none }) rfl (fun K hK1 => ?_) AllReady.nil)
      refine step_store_row rfl 55 (.tmp p) (.tmp x) rfl g0 cs0 d0 dx 55 hb0' hi0 ho0 ?_
      refine hK1 _ _ ?_
      clear hK1 K
      change wpAny _ _ _ _ 1 _ d _
      refine wpAny_ready (rs := [3]) (by kernel_rfl) (by simp) (AllReady.cons (o := { dst := none, op := .store 55 (.tmp q) (.tmp y), type := 0, pos := s3, after := #[{ on := 1, ground := .data }, { on := 2, ground := .chain }, { on := 0, ground := .phase }, { on := 1, ground := .phase }, { on := 2, ground := .phase }], guard := none }) rfl (fun K hK1 => ?_) AllReady.nil)
      refine step_store_row rfl 55 (.tmp q) (.tmp y) rfl g1 cs1 d1 dy 55 hb1' hi1 ho1 ?_
      refine hK1 _ _ ?_
      clear hK1 K
      exact wpAny_done (by kernel_rfl) (hK d d0 d1 dd) _
    · refine step_store_row rfl 55 (.tmp p) (.tmp x) rfl g0 cs0 c0 cx 55 hb0' hi0 ho0 ?_
      refine hK1 _ _ ?_
      clear hK1 K
      change wpAny _ _ _ _ 2 _ c _
      refine wpAny_ready (rs := [1]) (by kernel_rfl) (by simp) (AllReady.cons (o := { dst := some y, op := .load 55 (.tmp q), type := 55, pos := s1, after := #[{ on := 2, ground := .gcOnly .lateStores }], guard := none }) rfl (fun K hK1 => ?_) AllReady.nil)
      refine step_load_row rfl 55 (.tmp q) rfl g1 c1 55 cs1 (0, 0) _ hb1' Try.underlying55 rfl hi1 ?_
      refine hK1 _ _ ?_
      clear hK1 K
      change wpAny _ _ _ _ 1 _ (c.put (some y) (.agg cs1)) _
      rw [hd]
      refine wpAny_ready (rs := [3]) (by kernel_rfl) (by simp) (AllReady.cons (o := { dst := none, op := .store 55 (.tmp q) (.tmp y), type := 0, pos := s3, after := #[{ on := 1, ground := .data }, { on := 2, ground := .chain }, { on := 0, ground := .phase }, { on := 1, ground := .phase }, { on := 2, ground := .phase }], guard := none }) rfl (fun K hK1 => ?_) AllReady.nil)
      refine step_store_row rfl 55 (.tmp q) (.tmp y) rfl g1 cs1 d1 dy 55 hb1' hi1 ho1 ?_
      refine hK1 _ _ ?_
      clear hK1 K
      exact wpAny_done (by kernel_rfl) (hK d d0 d1 dd) _
  · refine step_load_row rfl 55 (.tmp q) rfl g1 h1 55 cs1 (0, 0) _ hb1' Try.underlying55 rfl hi1 ?_
    refine hK1 _ _ ?_
    clear hK1 K
    change wpAny _ _ _ _ 3 _ (a.put (some y) (.agg cs1)) _
    rw [hf]
    refine wpAny_ready (rs := [0]) (by kernel_rfl) (by simp) (AllReady.cons (o := { dst := some x, op := .load 55 (.tmp p), type := 55, pos := s0, after := #[], guard := none }) rfl (fun K hK1 => ?_) AllReady.nil)
    refine step_load_row rfl 55 (.tmp p) rfl g0 f0 55 cs0 (0, 0) _ hb0' Try.underlying55 rfl hi0 ?_
    refine hK1 _ _ ?_
    clear hK1 K
    change wpAny _ _ _ _ 2 _ (f.put (some x) (.agg cs0)) _
    rw [hg]
    refine wpAny_ready (rs := [2]) (by kernel_rfl) (by simp) (AllReady.cons (o := { dst := none, op := .store 55 (.tmp p) (.tmp x), type := 0, pos := s2, after := #[{ on := 0, ground := .data }, { on := 0, ground := .phase }, { on := 1, ground := .textOnly .lateStores }], guard := none }) rfl (fun K hK1 => ?_) AllReady.nil)
    refine step_store_row rfl 55 (.tmp p) (.tmp x) rfl g0 cs0 g0' gx 55 hb0' hi0 ho0 ?_
    refine hK1 _ _ ?_
    clear hK1 K
    change wpAny _ _ _ _ 1 _ g _
    refine wpAny_ready (rs := [3]) (by kernel_rfl) (by simp) (AllReady.cons (o := { dst := none, op := .store 55 (.tmp q) (.tmp y), type := 0, pos := s3, after := #[{ on := 1, ground := .data }, { on := 2, ground := .chain }, { on := 0, ground := .phase }, { on := 1, ground := .phase }, { on := 2, ground := .phase }], guard := none }) rfl (fun K hK1 => ?_) AllReady.nil)
    refine step_store_row rfl 55 (.tmp q) (.tmp y) rfl g1 cs1 g1' gy 55 hb1' hi1 ho1 ?_
    refine hK1 _ _ ?_
    clear hK1 K
    exact wpAny_done (by kernel_rfl) (hK g g0' g1' gd) _

end Go.Proofs.Ythceefhnmjjddaa
