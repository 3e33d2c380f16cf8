/-
  The document's tables of a block with code words of its own, by a contract.
-/
import Derived.Test.YthceefhnmjjddaaRefFixed
import Derived.Test.YthceefhnmjjddaaOwn
import Derived.Deep.RegionLaw
namespace Go.Proofs.Ythceefhnmjjddaa
open Go.RowKit

theorem RRAt.only {S : List Nat} {w w' : World} {b : Nat} {A : Option Addr} {cap : Nat} {T : List UInt8} {s : Option Nat} (h : RRAt w b A cap T s) (hO : Only S w w') (hb : b ∉ S) (hA : ∀ a, A = some a → a.block ∉ S) : RRAt w' b A cap T s := by
  cases s with
  | some I => exact RAlive.only h hO hb hA
  | none => exact hO.blk h hb
theorem RRAt.below {w w' : World} {b : Nat} {A : Option Addr} {cap : Nat} {T : List UInt8} {s : Option Nat} (h : RRAt w b A cap T s) (hb : Below w.heap.size w w') : RRAt w' b A cap T s := h.only (S := []) (Only.of_below hb) (by simp) (by simp)
theorem RRAt.lt {w : World} {b : Nat} {A : Option Addr} {cap : Nat} {T : List UInt8} {s : Option Nat} (h : RRAt w b A cap T s) : b < w.heap.size := by
  cases s with
  | some I => exact (show RAlive w b A cap T I from h).blk.lt
  | none => exact Blk.lt h
theorem RHalt.e {w : World} {b : Nat} {e : Int} (h : RHalt w b e) : w.cell? ⟨b, 2, none⟩ = some (.int .i64 e) ∧ w.frozen? ⟨b, 2, none⟩ = false := by
  obtain ⟨_, _, hb⟩ := h
  exact ⟨hb.cell 2, hb.frozen 2⟩
theorem RHalt.set {w : World} {b : Nat} {e : Int} (h : RHalt w b e) (e' : Int) : RHalt (w.setCell ⟨b, 2, none⟩ (.int .i64 e')) b e' := by
  obtain ⟨_, _, hb⟩ := h
  exact ⟨_, _, hb.set_ 2 _⟩
theorem RHalt.only {S : List Nat} {w w' : World} {b : Nat} {e : Int} (h : RHalt w b e) (hO : Only S w w') (hb : b ∉ S) : RHalt w' b e := by
  obtain ⟨_, _, hc⟩ := h
  exact ⟨_, _, hO.blk hc hb⟩
theorem RHalt.below {w w' : World} {b : Nat} {e : Int} (h : RHalt w b e) (hB : Below w.heap.size w w') : RHalt w' b e := h.only (S := []) (Only.of_below hB) (by simp)
theorem RHalt.lt {w : World} {b : Nat} {e : Int} (h : RHalt w b e) : b < w.heap.size := by
  obtain ⟨_, _, hc⟩ := h
  exact hc.lt
theorem RRAt.e {w : World} {b : Nat} {A : Option Addr} {cap : Nat} {T : List UInt8} {s : Option Nat} (h : RRAt w b A cap T s) : ∃ e : Int, w.cell? ⟨b, 2, none⟩ = some (.int .i64 e) ∧ w.frozen? ⟨b, 2, none⟩ = false ∧ RHalt (w.setCell ⟨b, 2, none⟩ (.int .i64 2)) b 2 := by
  cases s with
  | some I => exact ⟨0, (show RAlive w b A cap T I from h).cells.1, (show RAlive w b A cap T I from h).cells.2, RAlive.halt h 2⟩
  | none => exact ⟨2, (RDead.halt h).e.1, (RDead.halt h).e.2, (RDead.halt h).set 2⟩
theorem tabled_none {o : Option (List Nat × List Nat × Nat)} {b : Nat} {A : Option Addr} {cap : Nat} {T : List UInt8} {w w' : World} {v1 v2 : Value} (ho : o = none) (hO : Only [b] w w') (hh : RHalt w' b 2) : RTabled o b A cap T w (.returned (.tuple #[v1, v2])) w' := by
  subst ho
  exact ⟨hO, ⟨_, _, rfl⟩, hh⟩
def rleft (b N : Nat) (w : World) : Nat :=
  match w.cell? ⟨b, 2, none⟩, w.cell? ⟨b, 1, none⟩ with
  | some (.int _ e), some (.int _ i) => if e = 0 then 1 + (N - i.toNat) else 0
  | _, _ => 0
theorem RAlive.left {w : World} {b : Nat} {A : Option Addr} {cap : Nat} {T : List UInt8} {I : Nat} (h : RAlive w b A cap T I) (N : Nat) : rleft b N w = 1 + (N - I) := by
  unfold rleft
  rw [h.blk.cell 2, h.blk.cell 1]
  simp
theorem RHalt.left {w : World} {b : Nat} {e : Int} (h : RHalt w b e) (he : e = 2 ∨ e = 3) (N : Nat) : rleft b N w = 0 := by
  obtain ⟨v0, v1, hb⟩ := h
  unfold rleft
  rw [hb.cell 2]
  have : ¬ e = 0 := by omega
  cases hc : w.cell? ⟨b, 1, none⟩ with
  | none => rfl
  | some v => cases v <;> simp [this]

/-- The lengths so far, beside the words of the codes of lengths. -/
structure RL (b : Nat) (w w9 : World) (codes : List Nat) (gw : Nat) (L : List Nat) (l : Value) (wr : World) : Prop where
  own : wr.ownsRow w9.heap.size 3 1 l L.length (numsV L)
  o : Only [b] w wr
  o9 : w9.heap.size ≤ wr.heap.size
  row : wr.heap[gw]? = some (.cells (textsV (wordsL codes)).toArray 9 (0, 0))
theorem RL.only {b : Nat} {w w9 wr w' : World} {codes : List Nat} {gw : Nat} {L : List Nat} {l : Value} (h : RL b w w9 codes gw L l wr) (hX : Only [b] wr w') (hb : b < w9.heap.size) (hg : b ≠ gw) : RL b w w9 codes gw L l w' :=
  ⟨own_only h.own hX (by simp; omega), h.o.trans hX, Nat.le_trans h.o9 hX.size, (hX.block gw (Array.getElem?_eq_some_iff.1 h.row).1 (by simp; omega)).trans h.row⟩
theorem RL.below {b : Nat} {w w9 wr w' : World} {codes : List Nat} {gw : Nat} {L : List Nat} {l : Value} (h : RL b w w9 codes gw L l wr) (hX : Below wr.heap.size wr w') : RL b w w9 codes gw L l w' :=
  ⟨own_below h.own hX, h.o.trans (Only.of_below hX), Nat.le_trans h.o9 hX.size, (hX.block gw (Array.getElem?_eq_some_iff.1 h.row).1).trans h.row⟩
theorem RL.alloc {b : Nat} {w w9 wr : World} {codes : List Nat} {gw : Nat} {L : List Nat} {l : Value} (h : RL b w w9 codes gw L l wr) (o : Obj) : RL b w w9 codes gw L l (wr.alloc o) := h.below ((Below.refl _ wr).alloc (Nat.le_refl _) o)
theorem RL.grow {b : Nat} {w w9 wr w' : World} {codes : List Nat} {gw : Nat} {L : List Nat} {l v : Value} {n x : Nat} (h : RL b w w9 codes gw L l wr) (hown : w'.ownsRow w9.heap.size 3 1 v (L.length + n) (numsV L ++ numsV (List.replicate n x))) (hg : wr.grownBy w' l.ownBlock) (hw : w.heap.size ≤ w9.heap.size) (hgw : gw < w9.heap.size) : RL b w w9 codes gw (L ++ List.replicate n x) v w' := by
  have hr : ∀ k, l.ownBlock = some k → w9.heap.size ≤ k := fun k hk => (h.own.lt k hk).1
  refine ⟨?_, h.o.grown hg (fun k hk => .inr (by have := hr k hk; omega)), Nat.le_trans h.o9 hg.size, (hg.block gw (Array.getElem?_eq_some_iff.1 h.row).1 (fun e => by have := hr _ e.symm; omega)).trans h.row⟩
  rw [numsV_append]
  simpa using hown
theorem RAlive.grownL {b : Nat} {A : Option Addr} {cap : Nat} {T : List UInt8} {I : Nat} {wr w' : World} {base n : Nat} {l : Value} {xs : List Value} (h : RAlive wr b A cap T I) (hown : wr.ownsRow base 3 1 l n xs) (hg : wr.grownBy w' l.ownBlock) (hb : b < base) (hA : ∀ a, A = some a → a.block < base) : RAlive w' b A cap T I :=
  h.only (S := ownL l) ((Only.refl _ wr).grown hg (fun k hk => .inl (mem_ownL.2 hk))) (fun hm => by have := (hown.lt b (mem_ownL.1 hm)).1; omega) (fun a ha hm => by have := (hown.lt _ (mem_ownL.1 hm)).1; have := hA a ha; omega)
theorem RHalt.grownL {b : Nat} {e : Int} {wr w' : World} {base n : Nat} {l : Value} {xs : List Value} (h : RHalt wr b e) (hown : wr.ownsRow base 3 1 l n xs) (hg : wr.grownBy w' l.ownBlock) (hb : b < base) : RHalt w' b e :=
  h.only (S := ownL l) ((Only.refl _ wr).grown hg (fun k hk => .inl (mem_ownL.2 hk))) (fun hm => by have := (hown.lt b (mem_ownL.1 hm)).1; omega)
def RLensRel (b : Nat) (A : Option Addr) (cap : Nat) (T : List UInt8) (codes : List Nat) (gw m ns nd : Nat) (w w9 : World) (o : Option (List Nat × List Nat × Nat)) (l : Value) (wr : World) : Prop :=
  ∃ L : List Nat, RL b w w9 codes gw L l wr ∧ L.length ≤ m + 138 ∧ ((∃ I f, RAlive wr b A cap T I ∧ m - L.length < f ∧ (∀ x ∈ L, x ≤ 15) ∧ o = tailK ns nd (lensF T codes m f L I)) ∨ (RHalt wr b 2 ∧ o = none))
theorem rlens_bad {b : Nat} {A : Option Addr} {cap : Nat} {T : List UInt8} {codes : List Nat} {gw m ns nd : Nat} {w w9 wr : World} {o : Option (List Nat × List Nat × Nat)} {L : List Nat} {l : Value} (h : RL b w w9 codes gw L l wr) (hm : L.length ≤ m + 138) (hh : RHalt wr b 2) (ho : o = none) : RLensRel b A cap T codes gw m ns nd w w9 o l wr :=
  ⟨L, h, hm, .inr ⟨hh, ho⟩⟩
theorem rlens_more {b : Nat} {A : Option Addr} {cap : Nat} {T : List UInt8} {codes : List Nat} {gw m ns nd f I n x : Nat} {w w9 wr : World} {o : Option (List Nat × List Nat × Nat)} {L : List Nat} {l : Value} (h : RL b w w9 codes gw (L ++ List.replicate n x) l wr) (h15 : ∀ x ∈ L, x ≤ 15) (hx : x ≤ 15) (hm : L.length < m) (hn : n ≤ 138) (hn1 : 1 ≤ n) (ha : RAlive wr b A cap T I) (hf : m - L.length < f + 1) (ho : o = tailK ns nd (lensF T codes m f (L ++ List.replicate n x) I)) : RLensRel b A cap T codes gw m ns nd w w9 o l wr := by
  refine ⟨_, h, by simp; omega, .inl ⟨I, f, ha, by simp; omega, ?_, ho⟩⟩
  intro y hy
  rcases List.mem_append.1 hy with hy | hy
  · exact h15 y hy
  · rw [List.eq_of_mem_replicate hy]; exact hx
/-- A row whose first cells are these numbers. -/
def RowAt (w : World) (g : Nat) (L : List Nat) : Prop := ∃ cur : Array Value, w.heap[g]? = some (.cells cur 3 (0, 0)) ∧ cur.toList.take L.length = numsV L
theorem RowAt.lt {w : World} {g : Nat} {L : List Nat} (h : RowAt w g L) : g < w.heap.size := by
  obtain ⟨cur, hg, _⟩ := h
  exact (Array.getElem?_eq_some_iff.1 hg).1
theorem RowAt.cell {w : World} {g : Nat} {L : List Nat} (h : RowAt w g L) {i : Nat} (hi : i < L.length) : w.cell? ⟨g, i, none⟩ = some (.int .i64 (L.getD i 0 : Nat)) := by
  obtain ⟨cur, hg, ht⟩ := h
  rw [cell_of_row _ _ _ _ _ _ hg]
  have h1 : (cur.toList.take L.length)[i]? = cur.toList[i]? := by rw [List.getElem?_take, if_pos hi]
  rw [← Array.getElem?_toList, ← h1, ht]
  simp [numsV, hi]
theorem RowAt.frozen {w : World} {g : Nat} {L : List Nat} (h : RowAt w g L) (i : Nat) : w.frozen? ⟨g, i, none⟩ = false := by
  obtain ⟨cur, hg, _⟩ := h
  exact frozen_of_row w g i _ _ hg
theorem RowAt.set {w : World} {g : Nat} {L : List Nat} (h : RowAt w g L) (i x : Nat) : RowAt (w.setCell ⟨g, i, none⟩ (.int .i64 (x : Nat))) g (L.set i x) := by
  obtain ⟨cur, hg, ht⟩ := h
  refine ⟨_, heap_setCell_same w g i _ 3 _ hg, ?_⟩
  rw [List.length_set, Array.toList_setIfInBounds, List.take_set, ht]
  simp [numsV, List.map_set]
theorem RowAt.only {S : List Nat} {w w' : World} {g : Nat} {L : List Nat} (h : RowAt w g L) (hO : Only S w w') (hg : g ∉ S) : RowAt w' g L := by
  obtain ⟨cur, h1, h2⟩ := h
  exact ⟨cur, (hO.block g (Array.getElem?_eq_some_iff.1 h1).1 hg).trans h1, h2⟩
theorem RowAt.nums {w : World} {g : Nat} {L : List Nat} (h : RowAt w g L) : NumsAt w (some ⟨g, 0, none⟩) L :=
  .inr ⟨g, 0, rfl, h.lt, fun i hi => by rw [Nat.zero_add]; exact h.cell hi⟩
theorem RowAt.of_own {w : World} {base : Nat} {v : Value} {L : List Nat} (h : w.ownsRow base 3 1 v L.length (numsV L)) (hn : 0 < L.length) : ∃ g c, v = .slice (some ⟨g, 0, none⟩) L.length c ∧ base ≤ g ∧ RowAt w g L := by
  rcases h.2 with ⟨_, h0⟩ | ⟨g, cap, cur, rfl, hb, hg, _, _, _, ht⟩
  · omega
  · exact ⟨g, cap, rfl, hb, cur, hg, by rw [← ht, Nat.mul_one]⟩
theorem valR_lt2 (T : List UInt8) (s : Option Nat) (n : Nat) : valR (numS T s n) < 2 ^ n := by
  have h := numS_lt T s n
  generalize numS T s n = r at *
  obtain ⟨v, st⟩ := r
  cases st with
  | none => show 0 < 2 ^ n; exact Nat.two_pow_pos n
  | some J => exact h
/-- The codes' lengths so far. -/
def RCodesRel (b : Nat) (A : Option Addr) (cap : Nat) (T : List UInt8) (nC ns nd : Nat) (w : World) (cb ob : Nat) (o : Option (List Nat × List Nat × Nat)) (i : Value) (wr : World) : Prop :=
  ∃ (k : Nat) (codes : List Nat) (st : Option Nat), i = .int .i64 (k : Nat) ∧ k ≤ 19 ∧ codes.length = 19 ∧ (∀ x ∈ codes, x ≤ 15) ∧ RowAt wr cb codes ∧ wr.heap[ob]? = some (.cells orderA 3 (0, 0)) ∧
    RRAt wr b A cap T st ∧ Only [b] w wr ∧ (st = none → o = none) ∧ (∀ I, st = some I → o = ownK T ns nd (codesS T ((orderL.take nC).drop k) codes (some I)))
theorem codes_none {T : List UInt8} {ns nd : Nat} : ∀ cs codes, ownK T ns nd (codesS T cs codes none) = none := by
  intro cs
  induction cs with
  | nil => intro codes; rfl
  | cons c cs ih => intro codes; simp only [codesS, numS_none]; exact ih _
theorem rcodes_step {T : List UInt8} {nC ns nd k x y : Nat} {codes : List Nat} {st st' : Option Nat} {o : Option (List Nat × List Nat × Nat)} (hk : k < nC) (hk19 : k < 19) (hx : orderL.getD k 0 = x) (hy : valR (numS T st 3) = y) (hst : (numS T st 3).2 = st') (h1 : st = none → o = none) (h2 : ∀ I, st = some I → o = ownK T ns nd (codesS T ((orderL.take nC).drop k) codes (some I))) :
    (st' = none → o = none) ∧ (∀ I, st' = some I → o = ownK T ns nd (codesS T ((orderL.take nC).drop (k + 1)) (codes.set x y) (some I))) := by
  have hlen : k < (orderL.take nC).length := by rw [List.length_take]; show k < min nC 19; omega
  have hgd : (orderL.take nC).getD k 0 = x := by rw [← hx]; simp [List.getD_eq_getElem?_getD, hk]
  rcases st with _ | I
  · rw [numS_none] at hst
    cases hst
    exact ⟨fun _ => h1 rfl, fun I h => by cases h⟩
  · have h3 := h2 I rfl
    rw [codesS_step hlen, hgd, hst] at h3
    constructor
    · intro h; rw [h3, h]; exact codes_none _ _
    · intro J hJ
      rw [h3, hJ, ← hy, valR_some (hst.trans hJ)]
theorem rcodes_skip {T : List UInt8} {nC ns nd k : Nat} {codes : List Nat} {st : Option Nat} {o : Option (List Nat × List Nat × Nat)} (hk : nC ≤ k) (h2 : ∀ I, st = some I → o = ownK T ns nd (codesS T ((orderL.take nC).drop k) codes (some I))) :
    ∀ I, st = some I → o = ownK T ns nd (codesS T ((orderL.take nC).drop (k + 1)) codes (some I)) := by
  intro I h
  have h3 := h2 I h
  have hl : (orderL.take nC).length ≤ nC := List.length_take_le _ _
  rw [List.drop_eq_nil_of_le (by omega)] at h3 ⊢
  exact h3
theorem RRAt.grownL {b : Nat} {A : Option Addr} {cap : Nat} {T : List UInt8} {s : Option Nat} {wr w' : World} {base n : Nat} {l : Value} {xs : List Value} (h : RRAt wr b A cap T s) (hown : wr.ownsRow base 3 1 l n xs) (hg : wr.grownBy w' l.ownBlock) (hb : b < base) (hA : ∀ a, A = some a → a.block < base) : RRAt w' b A cap T s :=
  h.only (S := ownL l) ((Only.refl _ wr).grown hg (fun k hk => .inl (mem_ownL.2 hk))) (fun hm => by have := (hown.lt b (mem_ownL.1 hm)).1; omega) (fun a ha hm => by have := (hown.lt _ (mem_ownL.1 hm)).1; have := hA a ha; omega)
theorem tabled_two {o : Option (List Nat × List Nat × Nat)} {b : Nat} {A : Option Addr} {cap : Nat} {T : List UInt8} {w w' : World} {L : List Nat} {ns nd I g1 g2 n1 n2 : Nat} (ho : o = tailK ns nd (some (L, I))) (hl : L.length = ns + nd) (h256 : L.getD 256 0 ≠ 0) (hO : Only [b] w w') (ha : RAlive w' b A cap T I) (h1 : TextsAt w' w.heap.size g1 (L.take ns)) (h2 : TextsAt w' w.heap.size g2 (L.drop ns)) (hn1 : n1 = (L.take ns).length) (hn2 : n2 = (L.drop ns).length) :
    RTabled o b A cap T w (.returned (.tuple #[.slice (some ⟨g1, 0, none⟩) n1 n1, .slice (some ⟨g2, 0, none⟩) n2 n2])) w' := by
  subst hn1 hn2
  have e : o = some (L.take ns, L.drop ns, I) := ho.trans (if_pos ⟨hl, h256, h1.ok, h2.ok⟩)
  subst e
  exact ⟨hO, g1, g2, rfl, h1, h2, ha⟩
theorem Only.of_drew {S : List Nat} {w w' : World} (h : Only S w.drew w') : Only S w w' := ⟨h.os, h.tape, h.output, h.size, h.block⟩
theorem RAlive.drewN1 {w : World} {b : Nat} {A : Option Addr} {cap : Nat} {T : List UInt8} {I : Nat} (h : RAlive w b A cap T I) : RAlive w.drew b A cap T I := ⟨h.blk, h.bits, h.far, h.hI⟩
theorem rep_src {w : World} {B n x : Nat} {v : Value} (h : w.ownsRow B 3 1 v n (numsV (List.replicate n x))) : ∃ A d, v = .slice A n d ∧ Hid (Src w A (numsV (List.replicate n x))) := by
  obtain ⟨A, d, hv, _, hn, _⟩ := NumsAt.of_own (l := List.replicate n x) (by rw [List.length_replicate]; exact h)
  rw [List.length_replicate] at hv
  exact ⟨A, d, hv, Lib.hid hn.src⟩
/-- The lengths have grown past a number. -/
theorem rlens_num {b : Nat} {A : Option Addr} {cap : Nat} {T : List UInt8} {codes : List Nat} {gw m ns nd f I c x y q : Nat} {st : Option Nat} {w w9 wr : World} {o : Option (List Nat × List Nat × Nat)} {L : List Nat} {l : Value} {g : Nat → List Nat} (hg : g = fun v => L ++ List.replicate (c + v) x) (h : RL b w w9 codes gw (L ++ List.replicate (c + y) x) l wr) (h15 : ∀ x ∈ L, x ≤ 15) (hx : x ≤ 15) (hm : L.length < m) (hn : c + y ≤ 138) (hn1 : 1 ≤ c) (hr : RRAt wr b A cap T st) (hf : m - L.length < f + 1) (hy : valR (numS T (some I) q) = y) (hst : (numS T (some I) q).2 = st) (hI : I ≤ 8 * T.length) (ho : o = tailK ns nd (lensR T codes m f g (numS T (some I) q))) :
    RLensRel b A cap T codes gw m ns nd w w9 o l wr ∧ rleft b (8 * T.length) wr ≤ 1 + (8 * T.length - I) := by
  subst hg
  rcases st with _ | J
  · have e : o = none := by
      rw [ho]
      generalize numS T (some I) q = r at *
      obtain ⟨v, s⟩ := r
      cases hst
      rfl
    exact ⟨rlens_bad h (by simp; omega) (RDead.halt hr) e, by rw [(RDead.halt hr).left (.inl rfl)]; omega⟩
  · have hle := numS_le T I q J hst hI
    have hv := valR_some hst
    have e : o = tailK ns nd (lensF T codes m f (L ++ List.replicate (c + y) x) J) := by
      rw [ho, ← hy, hv]
      generalize numS T (some I) q = r at *
      obtain ⟨v, s⟩ := r
      cases hst
      rfl
    exact ⟨rlens_more h h15 hx hm hn (by omega) hr hf e, by rw [RAlive.left hr]; omega⟩

set_option maxHeartbeats 4000000 in
set_option maxRecDepth 100000 in
theorem rtables_own (b : Nat) (A : Option Addr) (cap : Nat) (T : List UInt8) (I : Nat) (k : Int) (w : World) (h : RAlive w b A cap T I) (hT : T.length ≤ 65536) (hA : ∀ a, A = some a → a.block < w.heap.size) (hk : (k == 1) = false) :
    Calls Try.prog 24 #[.pointer (some ⟨b, 0, none⟩), .int .i64 k] w (RTabled (ownS T I) b A cap T w) := by
  have ho : ownS T I = ownK T ((numS T (some I) 5).1 + 257) ((numS T (numS T (some I) 5).2 5).1 + 1) (codesS T (orderL.take ((numS T (numS T (numS T (some I) 5).2 5).2 4).1 + 4)) (List.replicate 19 0) (numS T (numS T (numS T (some I) 5).2 5).2 4).2) := rfl
  generalize ownS T I = o at *
  have hb0 : b < w.heap.size := h.blk.lt
  obtain ⟨i0, hi, hz0, hz1, hz2⟩ := info_parts info3
  have HO := Lib.hid ho
  clear ho
  go_enter Try.func24, Try.ntmps24
  go_wp2_with fail
  refine (rnumber_any b A cap T (some I) 5 _ _ h hT rfl (by omega)).mono ?_
  rintro e w1 ⟨rfl, hr1, hO1⟩
  have hl1 := valR_lt2 T (some I) 5
  have HV1 : Hid (∀ J, (numS T (some I) 5).2 = some J → valR (numS T (some I) 5) = (numS T (some I) 5).1) := Lib.hid fun J hJ => valR_some hJ
  generalize numS T (some I) 5 = r1 at *
  generalize valR r1 = x1 at *
  obtain ⟨v1, s1⟩ := r1
  simp only at hr1 HV1 HO
  replace hl1 : x1 < 32 := hl1
  go_wp2_with fail
  refine (rnumber_any b A cap T s1 5 _ _ hr1 hT rfl (by omega)).mono ?_
  rintro e w2 ⟨rfl, hr2, hO2⟩
  have hl2 := valR_lt2 T s1 5
  have HV2 : Hid (∀ J, (numS T s1 5).2 = some J → valR (numS T s1 5) = (numS T s1 5).1) := Lib.hid fun J hJ => valR_some hJ
  have HS1 : Hid (∀ J, (numS T s1 5).2 = some J → ∃ K, s1 = some K) := Lib.hid fun J hJ => by
    cases s1 with
    | some K => exact ⟨K, rfl⟩
    | none => rw [numS_none] at hJ; cases hJ
  generalize numS T s1 5 = r2 at *
  generalize valR r2 = x2 at *
  obtain ⟨v2, s2⟩ := r2
  simp only at hr2 HV2 HS1 HO
  replace hl2 : x2 < 32 := hl2
  go_wp2_with fail
  refine (rnumber_any b A cap T s2 4 _ _ hr2 hT rfl (by omega)).mono ?_
  rintro e w3 ⟨rfl, hr3, hO3⟩
  have hl3 := valR_lt2 T s2 4
  have HV3 : Hid (∀ J, (numS T s2 4).2 = some J → valR (numS T s2 4) = (numS T s2 4).1) := Lib.hid fun J hJ => valR_some hJ
  have HS2 : Hid (∀ J, (numS T s2 4).2 = some J → ∃ K, s2 = some K) := Lib.hid fun J hJ => by
    cases s2 with
    | some K => exact ⟨K, rfl⟩
    | none => rw [numS_none] at hJ; cases hJ
  generalize numS T s2 4 = r3 at *
  generalize valR r3 = x3 at *
  obtain ⟨v3, s3⟩ := r3
  simp only at hr3 HV3 HS2 HO
  replace hl3 : x3 < 16 := hl3
  have hO03 := (hO1.trans hO2).trans hO3
  have hval : ∀ J, s3 = some J → v1 = x1 ∧ v2 = x2 ∧ v3 = x3 := by
    intro J hJ
    obtain ⟨K, hK⟩ := HS2.out J hJ
    obtain ⟨M, hM⟩ := HS1.out K hK
    exact ⟨(HV1.out M hM).symm, (HV2.out K hK).symm, (HV3.out J hJ).symm⟩
  have HAL : Hid (∀ J, s3 = some J → o = ownK T (x1 + 257) (x2 + 1) (codesS T (orderL.take (x3 + 4)) (List.replicate 19 0) (some J))) := Lib.hid fun J hJ => by
    obtain ⟨e1, e2, e3⟩ := hval J hJ
    rw [← e1, ← e2, ← e3, HO.out, hJ]
  have HDE : Hid (s3 = none → o = none) := Lib.hid fun hJ => by
    have hd : ∀ cs codes, (codesS T cs codes none).2 = none := by
      intro cs
      induction cs with
      | nil => intro codes; rfl
      | cons c cs ih => intro codes; simp only [codesS, numS_none]; exact ih _
    rw [HO.out, hJ]
    generalize hq : codesS T _ _ none = q
    have := hd (orderL.take (v3 + 4)) (List.replicate 19 0)
    rw [hq] at this
    obtain ⟨q1, q2⟩ := q
    cases this
    rfl
  clear HO HV1 HV2 HV3 HS1 HS2 hval hr1 hr2 hO1 hO2 hO3
  go_wp2_with fail
  refine (rrepeat_any 0 19 19 _ rfl (by omega)).mono ?_
  rintro e w4 ⟨v4, rfl, hown4, hb4⟩
  obtain ⟨cb, c4, hv4, hcb, hrow4⟩ := RowAt.of_own (L := List.replicate 19 0) hown4 (by simp)
  replace hv4 : v4 = .slice (some ⟨cb, 0, none⟩) 19 c4 := hv4
  subst hv4
  have hr4 := hr3.below hb4
  have hO4 := hO03.trans (Only.of_below hb4)
  have hz03 := hO03.size
  clear hown4 hr3 hb4 hO03
  go_wp2_with fail
  have hbcb : b < cb := by omega
  have hO5 : Only [b] w (w4.alloc (.cells orderA 3)) := hO4.alloc _
  have hr5 : RRAt (w4.alloc (.cells orderA 3)) b A cap T s3 := hr4.below ((Below.refl _ w4).alloc (Nat.le_refl _) _)
  have hrow5 : RowAt (w4.alloc (.cells orderA 3)) cb (List.replicate 19 0) := hrow4.only (S := []) ((Only.refl [] w4).alloc _) (by simp)
  have hcb4 := hrow4.lt
  clear hr4 hO4 hrow4
  go_loopw [57] (fun i wr => RCodesRel b A cap T (x3 + 4) (x1 + 257) (x2 + 1) w cb w4.heap.size o i wr) (fun i _ => 19 - (intOf i).toNat)
  case atStart => exact ⟨0, List.replicate 19 0, s3, rfl, by omega, by simp, by simp, hrow5, heap_alloc_new w4 _, hr5, hO5, HDE.out, HAL.out⟩
  case round =>
    clear hO5 hr5 hrow5
    obtain ⟨k, codes, st, rfl, hk, hcl, hc15, hrow, hord, hr, hO, hno, hyes⟩ := hrel
    have HNO := Lib.hid hno
    have HYES := Lib.hid hyes
    have HCL := Lib.hid hcl
    have HC15 := Lib.hid hc15
    clear hno hyes hcl hc15
    by_cases hlt : k < 19
    · have hck := (cell_of_row _ _ k _ _ _ hord).trans (orderA_get k hlt)
      have hx := orderL_lt k hlt
      generalize hxx : orderL.getD k 0 = x at hck hx
      have HX := Lib.hid hxx
      clear hxx
      by_cases hltn : k < x3 + 4
      · have hltI : (k : Int) < (x3 : Int) + 4 := by omega
        go_wp2_with fail
        refine (rnumber_any b A cap T st 3 _ _ hr hT rfl (by omega)).mono ?_
        rintro e w7 ⟨rfl, hr7, hO7⟩
        have hl7 := valR_lt2 T st 3
        have hstp := rcodes_step (x := x) hltn hlt HX.out rfl rfl HNO.out HYES.out
        generalize valR (numS T st 3) = y at *
        generalize (numS T st 3).2 = st7 at *
        replace hl7 : y < 8 := hl7
        have HSTP := Lib.hid hstp
        have hrow7 := hrow.only hO7 (by simp; omega)
        have hord7 := (hO7.block w4.heap.size (Array.getElem?_eq_some_iff.1 hord).1 (by simp; omega)).trans hord
        have hcell := hrow7.cell (i := x) (by rw [HCL.out]; exact hx)
        have hfr := hrow7.frozen x
        have hset := hrow7.set x y
        have hr8 : RRAt (w7.setCell ⟨cb, x, none⟩ (.int .i64 (y : Nat))) b A cap T st7 := hr7.only (S := [cb]) ((Only.refl _ w7).set (.inl (List.mem_singleton.2 rfl)) _ _) (by simp; omega) (fun a ha => by have := hA a ha; simp; omega)
        have hord8 := (Below.heap_setCell w7 ⟨cb, x, none⟩ (.int .i64 (y : Nat)) w4.heap.size (by simp; omega)).trans hord7
        have hO8 := (hO.trans hO7).set (b := cb) (.inr (by omega)) x (.int .i64 (y : Nat))
        generalize codes.getD x 0 = old at hcell
        clear hstp hrow hord hr hO hO7 hrow7 hord7 hr7 hck
        go_wp2
        go_roundw
        case rel =>
          refine ⟨k + 1, codes.set x y, st7, by go_num, by omega, by simp [HCL.out], ?_, hset, hord8, hr8, hO8, HSTP.out.1, HSTP.out.2⟩
          intro z hz
          rcases List.mem_or_eq_of_mem_set hz with h | h
          · exact HC15.out z h
          · omega
        case measure => simp [intOf]; omega
      · have hltI : ¬ (k : Int) < (x3 : Int) + 4 := by omega
        have hsk := rcodes_skip (by omega) HYES.out
        have HSK := Lib.hid hsk
        clear hsk
        go_wp2
        go_roundw
        case rel => exact ⟨k + 1, codes, st, by go_num, by omega, HCL.out, HC15.out, hrow, hord, hr, hO, HNO.out, HSK.out⟩
        case measure => simp [intOf]; omega
    · obtain rfl : k = 19 := by omega
      have hdrop : (orderL.take (x3 + 4)).drop 19 = [] := List.drop_eq_nil_of_le (by rw [List.length_take]; show min (x3 + 4) 19 ≤ 19; omega)
      have hyes := HYES.out
      rw [hdrop] at hyes
      have HYES := Lib.hid hyes
      have hnums := hrow.nums
      clear hyes hdrop hord
      go_wp2_with fail
      refine (words_n (some ⟨cb, 0, none⟩) 19 c4 codes _ hnums HCL.out.symm (by rw [HCL.out]; omega) HC15.out).mono ?_
      rintro e w8 ⟨v8, rfl, hb8, hw8⟩
      have hr8 := hr.below hb8
      have hO8 := hO.trans (Only.of_below hb8)
      have hzr := hO.size
      have hz8 := hb8.size
      have HW8 := Lib.hid hw8
      clear hw8 hr hO hrow hnums hb8
      cases hR : right codes
      · have HNONE : Hid (o = none) := Lib.hid (by
          cases st with
          | none => exact HNO.out rfl
          | some J => rw [HYES.out J rfl]; exact ownK_bad hR)
        obtain ⟨e2, h2c, f2c, hh⟩ := hr8.e
        clear hR
        go_wp2_with fail
        go_loopw [19] (fun _ wx => RHalt wx b 2 ∧ Only [b] w wx) (fun _ _ => 0)
        case atStart => exact ⟨hh.below ((Below.refl _ _).alloc (Nat.le_refl _) _), (hO8.set (.inl (List.mem_singleton.2 rfl)) _ _).alloc _⟩
        case round =>
          obtain ⟨hhr, hOr⟩ := hrel
          obtain ⟨h2r, f2r⟩ := hhr.e
          go_wp2_with fail
          go_ret2
          exact tabled_none HNONE.out (hOr.set (.inl (List.mem_singleton.2 rfl)) _ _) (hhr.set 2)
      · have HRT := Lib.hid hR
        clear hR
        obtain ⟨gw, hv8, hgw, hroww⟩ := HW8.out HRT.out
        subst hv8
        have hgw8 : gw < w8.heap.size := (Array.getElem?_eq_some_iff.1 hroww).1
        rcases st with _ | J
        · have HNONE : Hid (o = none) := Lib.hid (HNO.out rfl)
          have hh := RDead.halt hr8
          obtain ⟨h2c, f2c⟩ := hh.e
          go_wp2_with fail
          go_loopw [19] (fun _ wx => RHalt wx b 2 ∧ Only [b] w wx) (fun _ _ => 0)
          case atStart => exact ⟨hh.below ((Below.refl _ _).alloc (Nat.le_refl _) _), hO8.alloc _⟩
          case round =>
            obtain ⟨hhr, hOr⟩ := hrel
            obtain ⟨h2r, f2r⟩ := hhr.e
            go_wp2_with fail
            go_ret2
            exact tabled_none HNONE.out (hOr.set (.inl (List.mem_singleton.2 rfl)) _ _) (hhr.set 2)
        · have hoK : o = tailS T (x1 + 257) (x2 + 1) codes J := HYES.out J rfl
          rw [tailS_right HRT.out] at hoK
          obtain ⟨m, hm⟩ : ∃ m, x1 + 257 + (x2 + 1) = m := ⟨_, rfl⟩
          rw [hm] at hoK
          have hm2 : m ≤ 320 := by omega
          have hm3 : 258 ≤ m := by omega
          have HOK := Lib.hid hoK
          have HMM := Lib.hid hm
          have ha8 : RAlive w8 b A cap T J := hr8
          obtain ⟨h2c, f2c⟩ := ha8.cells
          have hrl : RL b w w8 codes gw [] (.slice (some ⟨w8.heap.size, 0, none⟩) 0 0) (w8.alloc (.cells #[] 3)) := ⟨ownsRow_empty (heap_alloc_new w8 _) (Nat.le_refl _), hO8.alloc _, by simp, (Below.heap_alloc w8 _ _ hgw8).trans hroww⟩
          have ha9 : RAlive (w8.alloc (.cells #[] 3)) b A cap T J := ha8.below ((Below.refl _ w8).alloc (Nat.le_refl _) _)
          clear hoK hm HNO HYES HW8 hr8
          go_wp2_with fail
          clear h2c f2c
          go_loopw [19] (fun l wr => RLensRel b A cap T codes gw m (x1 + 257) (x2 + 1) w w8 o l wr) (fun _ wr => rleft b (8 * T.length) wr)
          case atStart => exact ⟨[], hrl, by simp, .inl ⟨J, m + 1, ha9, by simp, by simp, HOK.out⟩⟩
          case round =>
            clear ha9 hrl ha8 hO8 HOK
            obtain ⟨L, hrl, hLm, hcase⟩ := hrel
            obtain ⟨A2, c2, rfl⟩ := own_slice hrl.own
            rcases hcase with ⟨I', f, ha, hf, hL15, ho⟩ | ⟨hh, ho⟩
            · obtain ⟨h2c, f2c⟩ := ha.cells
              by_cases hlt : L.length < m
              · obtain ⟨f, rfl⟩ : ∃ f', f = f' + 1 := ⟨f - 1, by omega⟩
                rw [lensF_step hlt] at ho
                have HJ := Lib.hid ho
                have hmes := ha.left (8 * T.length)
                have HM := Lib.hid hmes
                have hI8 := ha.hI
                have hltI : (L.length : Int) < (x1 : Int) + 257 + ((x2 : Int) + 1) := by have := HMM.out; omega
                have HL15 := Lib.hid hL15
                clear ho hmes hL15
                go_wp2_with fail
                refine (rsign_any b gw A cap T codes I' _ ha hT (by rw [HCL.out]; omega) HRT.out hrl.row (by omega)).mono ?_
                intro e w10 hsd
                have hbd := @signS_bd T codes I'
                generalize signS T codes I' = o1 at *
                rcases o1 with _ | ⟨s, I1⟩
                · obtain ⟨rfl, hh, hO10⟩ := hsd
                  have HNONE : Hid (o = none) := HJ.out
                  obtain ⟨h2c, f2c⟩ := hh.e
                  clear hbd
                  go_wp2_with fail
                  go_ret2
                  exact tabled_none HNONE.out ((hrl.o.trans hO10).set (.inl (List.mem_singleton.2 rfl)) _ _) (hh.set 2)
                · obtain ⟨rfl, ha10, hO10⟩ := hsd
                  obtain ⟨hb1, hb2, hb3⟩ := hbd rfl
                  have hs19 : s < 19 := by have := HCL.out; omega
                  have hrl10 := hrl.only hO10 (by omega) (by omega)
                  have hz10 := hrl10.o9
                  obtain ⟨h2c, f2c⟩ := ha10.cells
                  clear ha hO10 hbd hb3 hrl
                  by_cases hs16 : s < 16
                  · have HN : Hid (o = tailK (x1 + 257) (x2 + 1) (lensF T codes m f (L ++ List.replicate 1 s) I1)) := HJ.out.trans (congrArg _ (lensK_lit hs16))
                    have e16 : (s : Int) < 16 := by omega
                    have hown1 := (hrl10.alloc (.cells #[.int .i64 (s : Nat)] 3)).own
                    have hrl11 := hrl10.alloc (.cells #[.int .i64 (s : Nat)] 3)
                    have ha11 : RAlive (w10.alloc (.cells #[.int .i64 (s : Nat)] 3)) b A cap T I1 := ha10.below ((Below.refl _ w10).alloc (Nat.le_refl _) _)
                    have hsrc := cell_src w10 (.int .i64 (s : Nat)) 3
                    have hone := Lib.hid (one_i64 (s : Nat))
                    have h63 := Lib.hid (le638 (show L.length + 1 ≤ 3000000 by omega))
                    clear HJ hrl10
                    go_wp2_with (at_builtin; go_loud (refine wpList_append_src _ rfl (.tmp 112) (.tmp 114) 28 rfl w8.heap.size 3 i0 (.int .i64 0) 1 8 Try.underlying28 hi hz0 hz1 hz2 rfl (by decide) (.slice A2 L.length c2) L.length (numsV L) rfl hown1 (some ⟨w10.heap.size, 0, none⟩) 1 1 [.int .i64 (s : Nat)] rfl rfl hsrc hone.out h63.out.1 h63.out.2 (by simp; omega) ?_; intro v' w13 hown13 hgrow13))
                    have hrl13 : RL b w w8 codes gw (L ++ List.replicate 1 s) v' w13 := hrl11.grow hown13 hgrow13 (by omega) hgw8
                    have ha13 := ha11.grownL hown1 hgrow13 (by omega) (fun a ha => by have := hA a ha; omega)
                    have hmes := ha13.left (8 * T.length)
                    have HM6 := Lib.hid hmes
                    clear hmes hown13 hgrow13 hsrc hown1 hrl11 ha11 ha10
                    go_roundw
                    case rel => exact rlens_more hrl13 HL15.out (by omega) hlt (by omega) (by omega) ha13 hf HN.out
                    case measure => rw [HM.out, HM6.out]; omega
                  · have e16n : ¬ (s : Int) < 16 := by omega
                    by_cases hsx : s = 16
                    · subst hsx
                      by_cases hnil : L = []
                      · have HNONE : Hid (o = none) := HJ.out.trans (congrArg _ (lensK_nil hnil))
                        have hlb : ((L.length : Int) == 0) = true := by simp [hnil]
                        have hh := ha10.halt 2
                        have hmes := hh.left (.inl rfl) (8 * T.length)
                        have HM6 := Lib.hid hmes
                        clear hmes HJ hnil
                        go_wp2_with fail
                        go_roundw
                        case rel => exact rlens_bad (hrl10.only ((Only.refl [b] _).set (.inl (List.mem_singleton.2 rfl)) _ _) (by omega) (by omega)) hLm hh HNONE.out
                        case measure => rw [HM.out, HM6.out]; omega
                      · have HN : Hid (o = tailK (x1 + 257) (x2 + 1) (lensR T codes m f (fun v => L ++ List.replicate (3 + v) (L.getD (L.length - 1) 0)) (numS T (some I1) 2))) := HJ.out.trans (congrArg _ (lensK_16 hnil))
                        have hpos : 0 < L.length := List.length_pos_iff.2 hnil
                        have hlb : ((L.length : Int) == 0) = false := by simp; exact hnil
                        obtain ⟨g, rfl, hcg⟩ := own_num hrl10.own (L.length - 1) (by omega)
                        have hgb : w8.heap.size ≤ g := (hrl10.own.lt g rfl).1
                        have hx15 : L.getD (L.length - 1) 0 ≤ 15 := HL15.out _ (by rw [List.getD_eq_getElem?_getD, List.getElem?_eq_getElem (by omega)]; exact List.getElem_mem _)
                        clear HJ hnil
                        generalize L.getD (L.length - 1) 0 = x at *
                        have HCG := Lib.hid hcg
                        clear hcg
                        go_wp2_with fail
                        have hl7 := valR_lt2 T (some I1) 2
                        have hN2 : ∀ W : World, RAlive W b A cap T I1 → Calls Try.prog 23 #[.pointer (some ⟨b, 0, none⟩), .int .i64 2] W fun e w' => e = .returned (.int .i64 (valR (numS T (some I1) 2) : Nat)) ∧ RRAt w' b A cap T (numS T (some I1) 2).2 ∧ Only [b] W w' := fun W hW => rnumber_any b A cap T (some I1) 2 2 W hW hT rfl (by omega)
                        obtain ⟨y, hy⟩ : ∃ y, valR (numS T (some I1) 2) = y := ⟨_, rfl⟩
                        obtain ⟨s7, hs7⟩ : ∃ s, (numS T (some I1) 2).2 = s := ⟨_, rfl⟩
                        rw [hs7, hy] at hN2
                        rw [hy] at hl7
                        have HY := Lib.hid hy
                        have HS7 := Lib.hid hs7
                        have HN2 := Lib.hid hN2
                        replace hl7 : y < 4 := hl7
                        clear hy hs7 hN2
                        have hwr1 : IntKind.i64.wrap ((L.length : Int) - 1) = (L.length : Int) - 1 := IntWalk.i64_in _ (by omega)
                        have hi0 : (0 : Int) ≤ (L.length : Int) - 1 := by omega
                        have hi1 : (1 : Int) ≤ (L.length : Int) := by omega
                        have hi2 : ((L.length : Int) - 1).toNat = L.length - 1 := by omega
                        have hi3 : (L.length : Int) - 1 < (L.length : Int) := by omega
                        have hcg := HCG.out
                        have hwr2 : IntKind.i64.wrap (3 + (y : Int)) = 3 + (y : Int) := IntWalk.i64_in _ (by omega)
                        have hone := Lib.hid (numsV_one (List.replicate (3 + y) x))
                        have hlen := Lib.hid (numsV_len (List.replicate (3 + y) x) (n := 3 + y) (by rw [List.length_replicate]))
                        have h63 := Lib.hid (le638 (show L.length + (3 + y) ≤ 3000000 by omega))
                        go_region_law (first | (refine step_append_src _ rfl (.tmp 130) (.tmp 140) 28 rfl w8.heap.size 3 i0 (.int .i64 0) 1 8 Try.underlying28 hi hz0 hz1 hz2 rfl (by decide) (.slice (some ⟨g, 0, none⟩) L.length c2) L.length (numsV L) (by go_simp) hown12.out B12 (3 + y) d12 (numsV (List.replicate (3 + y) x)) (by go_simp) hlen.out hsrc12.out hone.out h63.out.1 h63.out.2 hz12 ?_; intro v' w13 hown13 hgrow13) | (go_simp; go_at_call 23; refine (HN2.out _ (by exact ha10.drewN1)).mono ?_; rintro e w11 ⟨rfl, hr11, hO11⟩; have hcx := hO11.cell (p := ⟨g, L.length - 1, none⟩) (by simp; omega) hcg; have hrl11 := Lib.hid (hrl10.only (Only.of_drew hO11) (by omega) (by omega))) | (go_simp; go_at_call 39; refine (rrepeat_any x (3 + y) _ _ (by go_num) (by omega)).mono ?_; rintro e w12 ⟨v12, rfl, hown12r, hb12⟩; obtain ⟨B12, d12, hv12, hsrc12⟩ := rep_src hown12r; subst hv12; have hrl12 := hrl11.out.below hb12; have hr12 := hr11.below hb12; have hown12 := Lib.hid hrl12.own; have hz12 := hrl12.o9; clear hown12r hb12))
                        all_goals
                          have hfin := rlens_num rfl (hrl12.grow hown13 hgrow13 (by omega) hgw8) HL15.out hx15 hlt (by omega) (by omega) (hr12.grownL hown12.out hgrow13 (by omega) (fun a ha => by have := hA a ha; omega)) hf HY.out HS7.out (by omega) HN.out
                          have HFIN := Lib.hid hfin
                          clear hwr1 hi2 hcg hwr2 hcx hO11 HN2 hfin hrl12 hr12 hown13 hgrow13
                          go_wp2
                          go_roundw
                          case rel => (repeat apply Exists.intro); exact ⟨HFIN.out.1, rfl⟩
                          case measure =>
                            have := HFIN.out.2
                            rw [HM.out]
                            omega
                    · have e16 : ((s : Int) == 16) = false := by simp; omega
                      by_cases hsy : s = 17
                      · subst hsy
                        have HN : Hid (o = tailK (x1 + 257) (x2 + 1) (lensR T codes m f (fun v => L ++ List.replicate (3 + v) 0) (numS T (some I1) 3))) := HJ.out.trans (congrArg _ lensK_17)
                        clear HJ
                        go_wp2_with fail
                        refine (rnumber_any b A cap T (some I1) 3 _ _ ha10 hT rfl (by omega)).mono ?_
                        rintro e w11 ⟨rfl, hr11, hO11⟩
                        have hl7 := valR_lt2 T (some I1) 3
                        obtain ⟨y, hy⟩ : ∃ y, valR (numS T (some I1) 3) = y := ⟨_, rfl⟩
                        obtain ⟨s7, hs7⟩ : ∃ s, (numS T (some I1) 3).2 = s := ⟨_, rfl⟩
                        rw [hs7] at hr11
                        rw [hy] at hl7 ⊢
                        have HY := Lib.hid hy
                        have HS7 := Lib.hid hs7
                        replace hl7 : y < 8 := hl7
                        have hrl11 := hrl10.only hO11 (by omega) (by omega)
                        have hz11 := hO11.size
                        clear ha10 hrl10 hO11 hy hs7
                        go_wp2_with fail
                        refine (rrepeat_any 0 (3 + y) _ _ (by go_num) (by omega)).mono ?_
                        rintro e w12 ⟨v12, rfl, hown12, hb12⟩
                        obtain ⟨B12, d12, hv12, _, hn12, _⟩ := NumsAt.of_own (l := List.replicate (3 + y) 0) (by rw [List.length_replicate]; exact hown12)
                        rw [List.length_replicate] at hv12
                        subst hv12
                        have hsrc := hn12.src
                        have hrl12 := hrl11.below hb12
                        have hr12 := hr11.below hb12
                        have hone := Lib.hid (numsV_one (List.replicate (3 + y) 0))
                        have hlen := Lib.hid (numsV_len (List.replicate (3 + y) 0) (n := 3 + y) (by rw [List.length_replicate]))
                        have h63 := Lib.hid (le638 (show L.length + (3 + y) ≤ 3000000 by omega))
                        have hown := hrl12.own
                        have hz12 := hrl12.o9
                        clear hown12 hb12 hn12 hrl11 hr11
                        go_wp2_with (at_builtin; go_loud (refine wpList_append_src _ rfl (.tmp 145) (.tmp 149) 28 rfl w8.heap.size 3 i0 (.int .i64 0) 1 8 Try.underlying28 hi hz0 hz1 hz2 rfl (by decide) (.slice A2 L.length c2) L.length (numsV L) rfl hown B12 (3 + y) d12 (numsV (List.replicate (3 + y) 0)) rfl hlen.out hsrc hone.out h63.out.1 h63.out.2 hz12 ?_; intro v' w13 hown13 hgrow13))
                        have hfin := rlens_num rfl (hrl12.grow hown13 hgrow13 (by omega) hgw8) HL15.out (by omega) hlt (by omega) (by omega) (hr12.grownL hown hgrow13 (by omega) (fun a ha => by have := hA a ha; omega)) hf HY.out HS7.out (by omega) HN.out
                        have HFIN := Lib.hid hfin
                        clear hfin hrl12 hr12 hown13 hgrow13 hsrc hown
                        go_roundw
                        case rel => exact HFIN.out.1
                        case measure =>
                          have := HFIN.out.2
                          rw [HM.out]
                          omega
                      · obtain rfl : s = 18 := by omega
                        have HN : Hid (o = tailK (x1 + 257) (x2 + 1) (lensR T codes m f (fun v => L ++ List.replicate (11 + v) 0) (numS T (some I1) 7))) := HJ.out.trans (congrArg _ lensK_18)
                        clear HJ
                        go_wp2_with fail
                        refine (rnumber_any b A cap T (some I1) 7 _ _ ha10 hT rfl (by omega)).mono ?_
                        rintro e w11 ⟨rfl, hr11, hO11⟩
                        have hl7 := valR_lt2 T (some I1) 7
                        obtain ⟨y, hy⟩ : ∃ y, valR (numS T (some I1) 7) = y := ⟨_, rfl⟩
                        obtain ⟨s7, hs7⟩ : ∃ s, (numS T (some I1) 7).2 = s := ⟨_, rfl⟩
                        rw [hs7] at hr11
                        rw [hy] at hl7 ⊢
                        have HY := Lib.hid hy
                        have HS7 := Lib.hid hs7
                        replace hl7 : y < 128 := hl7
                        have hrl11 := hrl10.only hO11 (by omega) (by omega)
                        have hz11 := hO11.size
                        clear ha10 hrl10 hO11 hy hs7
                        go_wp2_with fail
                        refine (rrepeat_any 0 (11 + y) _ _ (by go_num) (by omega)).mono ?_
                        rintro e w12 ⟨v12, rfl, hown12, hb12⟩
                        obtain ⟨B12, d12, hv12, _, hn12, _⟩ := NumsAt.of_own (l := List.replicate (11 + y) 0) (by rw [List.length_replicate]; exact hown12)
                        rw [List.length_replicate] at hv12
                        subst hv12
                        have hsrc := hn12.src
                        have hrl12 := hrl11.below hb12
                        have hr12 := hr11.below hb12
                        have hone := Lib.hid (numsV_one (List.replicate (11 + y) 0))
                        have hlen := Lib.hid (numsV_len (List.replicate (11 + y) 0) (n := 11 + y) (by rw [List.length_replicate]))
                        have h63 := Lib.hid (le638 (show L.length + (11 + y) ≤ 3000000 by omega))
                        have hown := hrl12.own
                        have hz12 := hrl12.o9
                        clear hown12 hb12 hn12 hrl11 hr11
                        go_wp2_with (at_builtin; go_loud (refine wpList_append_src _ rfl (.tmp 103) (.tmp 107) 28 rfl w8.heap.size 3 i0 (.int .i64 0) 1 8 Try.underlying28 hi hz0 hz1 hz2 rfl (by decide) (.slice A2 L.length c2) L.length (numsV L) rfl hown B12 (11 + y) d12 (numsV (List.replicate (11 + y) 0)) rfl hlen.out hsrc hone.out h63.out.1 h63.out.2 hz12 ?_; intro v' w13 hown13 hgrow13))
                        have hfin := rlens_num rfl (hrl12.grow hown13 hgrow13 (by omega) hgw8) HL15.out (by omega) hlt (by omega) (by omega) (hr12.grownL hown hgrow13 (by omega) (fun a ha => by have := hA a ha; omega)) hf HY.out HS7.out (by omega) HN.out
                        have HFIN := Lib.hid hfin
                        clear hfin hrl12 hr12 hown13 hgrow13 hsrc hown
                        go_roundw
                        case rel => exact HFIN.out.1
                        case measure =>
                          have := HFIN.out.2
                          rw [HM.out]
                          omega
              · rw [lensF_end hlt (by omega)] at ho
                have hge : ¬ ((L.length : Int) < (x1 : Int) + 257 + ((x2 : Int) + 1)) := by have := HMM.out; omega
                by_cases hlen : L.length = m
                · have hlb : ((L.length : Int) != (x1 : Int) + 257 + ((x2 : Int) + 1)) = false := by have := HMM.out; simp; omega
                  have hc256 := own_num hrl.own 256 (by omega)
                  have hl256 : (256 : Int) < (L.length : Int) := by omega
                  have hl256n : 256 < L.length := by omega
                  obtain ⟨g, rfl, hcg⟩ := hc256
                  by_cases h256 : L.getD 256 0 = 0
                  · have HNONE : Hid (o = none) := Lib.hid (by rw [ho]; exact if_neg (by intro h; exact h.2.1 h256))
                    replace hcg : wr.cell? ⟨g, 256, none⟩ = some (.int .i64 0) := by rw [hcg, h256]; rfl
                    have hx := ha.halt 2
                    clear ho hlen h256
                    go_wp2_with fail
                    go_ret2
                    exact tabled_none HNONE.out (hrl.o.set (.inl (List.mem_singleton.2 rfl)) _ _) hx
                  · have hxb : (((L.getD 256 0 : Nat) : Int) == 0) = false := by simpa using h256
                    have hcap := own_cap hrl.own
                    have hca : (0 : Int) ≤ (x1 : Int) + 257 := by omega
                    have hcb : (x1 : Int) + 257 ≤ (c2 : Int) := by have := HMM.out; omega
                    have H256 := Lib.hid h256
                    have HOO := Lib.hid ho
                    have HLEN := Lib.hid hlen
                    generalize hx256 : L.getD 256 0 = x256 at hcg hxb
                    clear ho hlen h256 hx256
                    have hl3a : L.length ≤ 320 := by have := HLEN.out; omega
                    have hltk : x1 + 257 < L.length := by have := HMM.out; have := HLEN.out; omega
                    have hnA := nums_take hrl.own (x1 + 257) (by omega)
                    have hnB := nums_drop hrl.own (x1 + 257) hltk
                    have hol := hrl.o.size
                    go_wp2_with fail
                    refine (words_n _ _ _ (L.take (x1 + 257)) _ hnA (by rw [List.length_take]; omega) (by rw [List.length_take]; omega) (fun y hy => hL15 y (List.mem_of_mem_take hy))).mono ?_
                    rintro e w10 ⟨va, rfl, hb10, hwa⟩
                    have HWA := Lib.hid hwa
                    have hnB10 := hnB.below hb10
                    have ha10 := ha.below hb10
                    have hO10 := hrl.o.trans (Only.of_below hb10)
                    have hz10 := hb10.size
                    clear hwa hnA hnB ha hcg hrl hb10 h2c f2c
                    go_wp2_with fail
                    refine (words_n _ _ _ (L.drop (x1 + 257)) _ (by exact hnB10) (by rw [List.length_drop]) (by rw [List.length_drop]; omega) (fun y hy => hL15 y (List.mem_of_mem_drop hy))).mono ?_
                    rintro e w11 ⟨vb, rfl, hb11, hwb⟩
                    have ha11 := ha10.below hb11
                    have hO11 := hO10.trans (Only.of_below hb11)
                    obtain ⟨h2c, f2c⟩ := ha11.cells
                    have hx := ha11.halt 2
                    cases hRA : right (L.take (x1 + 257))
                    · have HNONE : Hid (o = none) := Lib.hid (by rw [HOO.out]; exact if_neg (by intro h; have := h.2.2.1; rw [hRA] at this; cases this))
                      clear hRA HWA hwb
                      go_wp2_with fail
                      go_ret2
                      exact tabled_none HNONE.out (hO11.set (.inl (List.mem_singleton.2 rfl)) _ _) hx
                    · cases hRB : right (L.drop (x1 + 257))
                      · have HNONE : Hid (o = none) := Lib.hid (by rw [HOO.out]; exact if_neg (by intro h; have := h.2.2.2; rw [hRB] at this; cases this))
                        clear hRA hRB HWA hwb
                        go_wp2_with fail
                        go_ret2
                        exact tabled_none HNONE.out (hO11.set (.inl (List.mem_singleton.2 rfl)) _ _) hx
                      · obtain ⟨g1, rfl, hg1, hrow1⟩ := HWA.out hRA
                        obtain ⟨g2, rfl, hg2, hrow2⟩ := hwb hRB
                        have ht1 : TextsAt w10 w.heap.size g1 (L.take (x1 + 257)) := ⟨hrow1, by omega, hRA, by rw [List.length_take]; omega⟩
                        have ht2 : TextsAt w11 w.heap.size g2 (L.drop (x1 + 257)) := ⟨hrow2, by omega, hRB, by rw [List.length_drop]; have := HMM.out; have := HLEN.out; omega⟩
                        have ht11 := ht1.below hb11
                        have hfin := fun n1 n2 h1 h2 => tabled_two (n1 := n1) (n2 := n2) HOO.out (by have := HMM.out; have := HLEN.out; omega) H256.out hO11 ha11 ht11 ht2 h1 h2
                        have HFIN := Lib.hid hfin
                        clear hfin hRA hRB HWA hwb hrow1 hrow2 ht1 ht2 ht11
                        go_wp2_with fail
                        go_ret2
                        exact HFIN.out _ _ (by simp) (by simp)
                · have hlb : ((L.length : Int) != (x1 : Int) + 257 + ((x2 : Int) + 1)) = true := by have := HMM.out; simp; omega
                  have HNONE : Hid (o = none) := Lib.hid (by rw [ho]; exact if_neg (by intro h; have := HMM.out; omega))
                  have hx := ha.halt 2
                  clear ho hlen
                  go_wp2_with fail
                  go_ret2
                  exact tabled_none HNONE.out (hrl.o.set (.inl (List.mem_singleton.2 rfl)) _ _) hx
            · have HNONE := Lib.hid ho
              obtain ⟨h2c, f2c⟩ := hh.e
              go_wp2_with fail
              go_ret2
              exact tabled_none HNONE.out (hrl.o.set (.inl (List.mem_singleton.2 rfl)) _ _) (hh.set 2)

end Go.Proofs.Ythceefhnmjjddaa
