/-
  inflate's fixed, by a contract.
-/
import Derived.Test.YthceefhnmjjddaaSign
import Derived.Test.YthceefhnmjjddaaRepeat
namespace Go.Proofs.Ythceefhnmjjddaa
open Go.RowKit

theorem table_at (A : Option Addr) (n cap : Nat) (L : List Nat) (w : World) (h : NumsAt w A L) (hn : n = L.length) (hL : L.length ≤ 65536) (h15 : ∀ x ∈ L, x ≤ 15) :
    Calls Try.prog 30 #[.slice A n cap] w (Table L w) := by subst hn; exact table_any A cap L w h hL h15
theorem own_below {w w' : World} {base : Nat} {e : TypeId} {size : Nat} {v : Value} {n : Nat} {xs : List Value} (h : w.ownsRow base e size v n xs) (hb : Below w.heap.size w w') : w'.ownsRow base e size v n xs := own_block h fun k hk => hb.block k (h.lt k hk).2
theorem own_base {w : World} {base base' : Nat} {e : TypeId} {size : Nat} {v : Value} {n : Nat} {xs : List Value} (h : w.ownsRow base e size v n xs) (hb : base' ≤ base) : w.ownsRow base' e size v n xs := by
  refine ⟨h.1, ?_⟩
  rcases h.2 with h2 | ⟨g, cap, cur, hv, h3, h4⟩
  · exact .inl h2
  · exact .inr ⟨g, cap, cur, hv, by omega, h4⟩

theorem own_row {w : World} {base : Nat} {e : TypeId} {size : Nat} {v : Value} {n : Nat} {xs : List Value} (h : w.ownsRow base e size v n xs) (g : Nat) (cs : Array Value) (hg : v.ownBlock ≠ some g) : (w.setRow g cs).ownsRow base e size v n xs :=
  own_block h fun k hk => setRow_other w g k cs (fun e => hg (by rw [← e, hk]))

theorem setCell_self {w : World} {g : Nat} {t : TypeId} {cs : Array Value} (h : Blk w g t cs) (i : Nat) (v : Value) (hi : cs[i]? = some v) : w.setCell ⟨g, i, none⟩ v = w := by
  rw [setCell_eq_setRow w g i cs t (0, 0) v h]
  have : cs.setIfInBounds i v = cs := by
    apply Array.ext_getElem?
    intro j
    rw [Array.getElem?_setIfInBounds]
    split
    · rename_i e; subst e; rw [hi]; simp [(Array.getElem?_eq_some_iff.1 hi).1]
    · rfl
  rw [this]
  exact setRow_self w g cs t (0, 0) h
/-- A table stored cell by cell. -/
def putTab (w : World) (g : Nat) (c : Nat → Nat) (v : Value) : World :=
  ((((((((((((((((w.setCell ⟨g, 0, none⟩ (.int .i64 (c 0 : Nat))).setCell ⟨g, 1, none⟩ (.int .i64 (c 1 : Nat))).setCell ⟨g, 2, none⟩ (.int .i64 (c 2 : Nat))).setCell ⟨g, 3, none⟩ (.int .i64 (c 3 : Nat))).setCell ⟨g, 4, none⟩ (.int .i64 (c 4 : Nat))).setCell
    ⟨g, 5, none⟩ (.int .i64 (c 5 : Nat))).setCell ⟨g, 6, none⟩ (.int .i64 (c 6 : Nat))).setCell ⟨g, 7, none⟩ (.int .i64 (c 7 : Nat))).setCell ⟨g, 8, none⟩ (.int .i64 (c 8 : Nat))).setCell ⟨g, 9, none⟩ (.int .i64 (c 9 : Nat))).setCell
    ⟨g, 10, none⟩ (.int .i64 (c 10 : Nat))).setCell ⟨g, 11, none⟩ (.int .i64 (c 11 : Nat))).setCell ⟨g, 12, none⟩ (.int .i64 (c 12 : Nat))).setCell ⟨g, 13, none⟩ (.int .i64 (c 13 : Nat))).setCell ⟨g, 14, none⟩ (.int .i64 (c 14 : Nat))).setCell
    ⟨g, 15, none⟩ (.int .i64 (c 15 : Nat))).setCell ⟨g, 16, none⟩ v
theorem putTab_self {w : World} {g : Nat} {c : Nat → Nat} {v : Value} (h : Blk w g 55 (tabCells c v)) : putTab w g c v = w := by
  unfold putTab
  rw [setCell_self h 0 (.int .i64 (c 0 : Nat)) rfl, setCell_self h 1 (.int .i64 (c 1 : Nat)) rfl, setCell_self h 2 (.int .i64 (c 2 : Nat)) rfl, setCell_self h 3 (.int .i64 (c 3 : Nat)) rfl, setCell_self h 4 (.int .i64 (c 4 : Nat)) rfl, setCell_self h 5 (.int .i64 (c 5 : Nat)) rfl, setCell_self h 6 (.int .i64 (c 6 : Nat)) rfl, setCell_self h 7 (.int .i64 (c 7 : Nat)) rfl, setCell_self h 8 (.int .i64 (c 8 : Nat)) rfl, setCell_self h 9 (.int .i64 (c 9 : Nat)) rfl, setCell_self h 10 (.int .i64 (c 10 : Nat)) rfl, setCell_self h 11 (.int .i64 (c 11 : Nat)) rfl, setCell_self h 12 (.int .i64 (c 12 : Nat)) rfl, setCell_self h 13 (.int .i64 (c 13 : Nat)) rfl, setCell_self h 14 (.int .i64 (c 14 : Nat)) rfl, setCell_self h 15 (.int .i64 (c 15 : Nat)) rfl, setCell_self h 16 v rfl]

theorem results_tab2 {fn : Func} {p q : Tmp} (hfn : fn.results = #[.cell p 55, .cell q 55]) {tmps : Array Value} {w : World} {g1 g2 : Nat} {c1 c2 : Nat → Nat} {v1 v2 : Value} (h1 : tmps.getD p undef = .pointer (some ⟨g1, 0, none⟩)) (h2 : tmps.getD q undef = .pointer (some ⟨g2, 0, none⟩))
    (hb1 : Blk w g1 55 (tabCells c1 v1)) (hb2 : Blk w g2 55 (tabCells c2 v2)) : (results fn tmps).run Try.prog w = .ok (.tuple #[.agg (tabCells c1 v1), .agg (tabCells c2 v2)]) w := by
  have hl1 := run_loadVar_row (P := Try.prog) w g1 55 55 (tabCells c1 v1) (0, 0) _ hb1 Try.underlying55 rfl ti55
  have hl2 := run_loadVar_row (P := Try.prog) w g2 55 55 (tabCells c2 v2) (0, 0) _ hb2 Try.underlying55 rfl ti55
  have h1' : tmps[p]?.getD undef = .pointer (some ⟨g1, 0, none⟩) := by simpa using h1
  have h2' : tmps[q]?.getD undef = .pointer (some ⟨g2, 0, none⟩) := by simpa using h2
  simp [results, hfn, h1', h2', asAddr, hl1, hl2]

/-- A row of n, its first k as L has them, the others 0. -/
def rowK (L : List Nat) (k n : Nat) : List Value := numsV (L.take k) ++ List.replicate (n - k) (.int .i64 0)
theorem rowK_length {L : List Nat} {k n : Nat} (h : k ≤ n) (hL : n = L.length) : (rowK L k n).length = n := by simp [rowK, numsV]; omega
theorem rowK_set {L : List Nat} {k n : Nat} (h : k < n) (hL : n = L.length) : (rowK L k n).toArray.setIfInBounds k (.int .i64 (L.getD k 0 : Nat)) = (rowK L (k + 1) n).toArray := by
  apply Array.ext'
  simp only [Array.toList_setIfInBounds]
  unfold rowK
  have hk : (numsV (L.take k)).length = k := by simp [numsV]; omega
  have e1 : n - k = (n - (k + 1)) + 1 := by omega
  rw [e1, List.replicate_succ, List.set_append, if_neg (by omega), hk, Nat.sub_self, List.set_cons_zero, List.take_succ_eq_append_getElem (by omega), numsV_append, List.append_assoc]
  have : L.getD k 0 = L[k] := by simp [List.getD_eq_getElem?_getD, List.getElem?_eq_getElem (show k < L.length by omega)]
  rw [this]
  rfl
theorem rowK_zero (L : List Nat) (n : Nat) : rowK L 0 n = List.replicate n (.int .i64 0) := by simp [rowK, numsV]
theorem nums_row {w : World} {g : Nat} {L : List Nat} {n : Nat} (h : w.heap[g]? = some (.cells (rowK L n n).toArray 3 (0, 0))) (hL : n = L.length) : NumsAt w (some ⟨g, 0, none⟩) L := by
  refine .inr ⟨g, 0, rfl, (Array.getElem?_eq_some_iff.1 h).1, fun i hi => ?_⟩
  rw [Nat.zero_add, cell_of_row _ _ _ _ _ _ h, List.getElem?_toArray]
  simp [rowK, numsV, hL, hi]

theorem ar_guard {P : Program} {md : Region.Mode} {ops : Array Oper} {Q : Exit → Act → World → Prop} {fuel : Nat} {listed : Array Bool} {a : Act} {w : World} {rs : List Nat} (h : AllReady P md ops Q fuel listed a w rs) : AllReady P md ops Q fuel listed a w rs := h
theorem ite_guard {c : Prop} [Decidable c] {a b : Prop} (h : if c then a else b) : if c then a else b := h
section
variable {P : Program}
theorem step_load_row {ops : Array Oper} {o : Oper} {a : Act} {w : World} {K : Act → World → Prop} {Q : Exit → Act → World → Prop} {E : Prop} (hgd : o.guard = none) (ty : TypeId) (x : Operand) (ho : o.op = .load ty x)
    (g : Nat) (hx : a.eval x = .pointer (some ⟨g, 0, none⟩)) (t : TypeId) (cs : Array Value) (fr : Nat × Nat) (d : TypeDesc) (hg : w.heap[g]? = some (.cells cs t fr))
    (hu : P.underlying ty = some d) (hd : (match d with | .struct _ | .array _ _ => true | _ => false) = true) (hi : (P.info? ty).map (·.size) = some cs.size)
    (h : K (a.put o.dst (.agg cs)) w) : if Region.wanted o (yielded ops a.tmps) = true then Oper.wp P o a w K Q else E := by
  have hw : Region.wanted o (yielded ops a.tmps) = true := by simp [Region.wanted, hgd]
  rw [if_pos hw]
  exact wp_load_row ty x ho g hx t cs fr d hg hu hd hi h
theorem step_store_row {ops : Array Oper} {o : Oper} {a : Act} {w : World} {K : Act → World → Prop} {Q : Exit → Act → World → Prop} {E : Prop} (hgd : o.guard = none) (ty : TypeId) (x y : Operand) (ho : o.op = .store ty x y)
    (g : Nat) (cells : Array Value) (hx : a.eval x = .pointer (some ⟨g, 0, none⟩)) (hy : a.eval y = .agg cells)
    (t : TypeId) (hg : w.heap[g]? = some (.cells cells t (0, 0))) (hi : (P.info? ty).map (·.size) = some cells.size)
    (h1 : cells.all (·.oneCell') = true)
    (h : K (a.put o.dst undef) w) : if Region.wanted o (yielded ops a.tmps) = true then Oper.wp P o a w K Q else E := by
  have hw : Region.wanted o (yielded ops a.tmps) = true := by simp [Region.wanted, hgd]
  rw [if_pos hw]
  refine wp_store_row ty x y ho g cells hx hy t cells hg hi rfl h1 ?_
  rw [setRow_self w g cells t (0, 0) hg]
  exact h
end

theorem fixL_get : ∀ k, k < 288 → fixL.getD k 0 = if k < 144 ∨ 280 ≤ k then 8 else if k < 256 then 9 else 7 := by decide +kernel
theorem fixL_length : fixL.length = 288 := by decide +kernel
theorem fixL_le : ∀ x ∈ fixL, x ≤ 15 := by decide +kernel
theorem fixL_right : right fixL = true := by decide +kernel
theorem fixD_right : right fixD = true := by decide +kernel
theorem fixD_le : ∀ x ∈ fixD, x ≤ 15 := by decide +kernel
theorem fixD_length : fixD.length = 32 := by decide +kernel
theorem fixD_row : (repV 32 32 5) = rowK fixD 32 32 := by simp [repV, rowK, numsV, fixD]

/-- What fixed and own give: two tables. -/
def Tables (o : Option (List Nat × List Nat)) (w : World) (e : Ending) (w' : World) : Prop :=
  ∃ c1 c2 v1 v2, e = .returned (.tuple #[.agg (tabCells c1 v1), .agg (tabCells c2 v2)]) ∧ (∃ A n c, v1 = .slice A n c) ∧ (∃ A n c, v2 = .slice A n c) ∧
    match o with
    | some (L1, L2) => c1 = (fun n => L1.count n) ∧ c2 = (fun n => L2.count n) ∧ w'.ownsRow w.heap.size 3 1 v1 (sgs L1 15).length (numsV (sgs L1 15)) ∧ w'.ownsRow w.heap.size 3 1 v2 (sgs L2 15).length (numsV (sgs L2 15))
    | none => True

theorem fixed_post {w w' : World} {A1 A2 : Option Addr} {n1 k1 n2 k2 : Nat} (ho1 : w'.ownsRow w.heap.size 3 1 (.slice A1 n1 k1) (sgs fixL 15).length (numsV (sgs fixL 15))) (ho2 : w'.ownsRow w.heap.size 3 1 (.slice A2 n2 k2) (sgs fixD 15).length (numsV (sgs fixD 15))) (hb : Below w.heap.size w w'.drew) :
    (fun e x => Tables (some (fixL, fixD)) w e x ∧ Below w.heap.size w x) (.returned (.tuple #[.agg (tabCells (fun n => fixL.count n) (.slice A1 n1 k1)), .agg (tabCells (fun n => fixD.count n) (.slice A2 n2 k2))])) w'.drew :=
  ⟨⟨_, _, _, _, rfl, ⟨_, _, _, rfl⟩, ⟨_, _, _, rfl⟩, rfl, rfl, own_drewN ho1 1, own_drewN ho2 1⟩, hb⟩
theorem f19_results : Try.f19.results = #[.cell 0 55, .cell 1 55] := by kernel_rfl
theorem f20_results : Try.f20.results = #[.cell 2 55, .cell 3 55] := by kernel_rfl

set_option maxHeartbeats 1000000 in
set_option maxRecDepth 100000 in
theorem fixed_any (w : World) : Calls Try.prog 19 #[] w fun e w' => Tables (some (fixL, fixD)) w e w' ∧ Below w.heap.size w w' := by
  obtain ⟨i0, hi, hz0, hz1, hz2⟩ := info_parts info3
  go_enter Try.func19, Try.ntmps19
  go_wp2_with (refine wpList_make_full _ rfl (.const (.int .i64 288)) (.const (.int .i64 288)) 28 rfl w.heap.size 3 i0 (.int .i64 0) 1 Try.underlying28 hi hz0 hz1 .i64 .i64 _ _ 288 rfl rfl rfl rfl (by rw [hz2]; omega) (by unfold maxLen; omega) (by simp; omega) ?_; intro w1 hown1 hgrow1)
  have hB : Below w.heap.size w w1 := ((((Below.refl _ w).alloc (Nat.le_refl _) _).alloc (by simp) _).grown hgrow1 (by simp; omega) (by simp))
  have hrow0 := own_full hown1 (rowK fixL 0 288) (by rw [rowK_zero]; simp only [Value.cells, Nat.mul_one]; exact toList_madeCells_one _ _)
  have ht0 : Blk w1 w.heap.size 55 (tabCells (fun _ => 0) (.slice none 0 0)) := ((Blk.new w _ _).alloc _).grown hgrow1 (by simp)
  have ht1 : Blk w1 (w.heap.size + 1) 55 (tabCells (fun _ => 0) (.slice none 0 0)) := (Blk.new_ (w := w.alloc _) _ _ (by simp)).grown hgrow1 (by simp)
  simp only [World.size_alloc] at hrow0
  clear hown1 hgrow1
  go_loopw [7] (fun i wr => ∃ k : Nat, i = .int .i64 (k : Nat) ∧ k ≤ 288 ∧ wr.heap[w.heap.size + 1 + 1]? = some (.cells (rowK fixL k 288).toArray 3 (0, 0)) ∧ Blk wr w.heap.size 55 (tabCells (fun _ => 0) (.slice none 0 0)) ∧ Blk wr (w.heap.size + 1) 55 (tabCells (fun _ => 0) (.slice none 0 0)) ∧ Below w.heap.size w wr) (fun i _ => 288 - (intOf i).toNat)
  case atStart => exact ⟨0, rfl, by omega, hrow0, ht0, ht1, hB⟩
  case round =>
    clear hrow0 ht0 ht1 hB
    obtain ⟨k, rfl, hk, hrow, ht0, ht1, hB⟩ := hrel
    by_cases hlt : k < 288
    · have hcell := (cell_of_row wr (w.heap.size + 1 + 1) k _ _ _ hrow)
      rw [List.getElem?_toArray, List.getElem?_eq_getElem (by rw [rowK_length (by omega) fixL_length.symm]; exact hlt)] at hcell
      generalize (rowK fixL k 288)[k]'_ = old at hcell
      have hfr := frozen_of_row wr (w.heap.size + 1 + 1) k _ _ hrow
      have hset := heap_setCell_same wr (w.heap.size + 1 + 1) k _ 3 (.int .i64 (fixL.getD k 0 : Nat)) hrow
      rw [rowK_set hlt fixL_length.symm, fixL_get k hlt] at hset
      have HROW := Lib.hid hset
      clear hset hrow
      by_cases h1 : k < 144 ∨ 280 ≤ k
      · rw [if_pos h1] at HROW
        have HR := HROW
        clear HROW
        rcases h1 with h1 | h1
        all_goals
          go_wp2
          go_roundw
          case rel => exact ⟨k + 1, by go_num, by omega, HR.out, ht0.far (by simp; omega) _, ht1.far (by simp) _, hB.setCell (by simp; omega) _⟩
          case measure => simp [intOf]; omega
      · rw [if_neg h1] at HROW
        have h2 : ¬ k < 144 := by omega
        have h3 : ¬ 280 ≤ k := by omega
        clear h1
        by_cases h4 : k < 256
        · rw [if_pos h4] at HROW
          go_wp2
          go_roundw
          case rel => exact ⟨k + 1, by go_num, by omega, HROW.out, ht0.far (by simp; omega) _, ht1.far (by simp) _, hB.setCell (by simp; omega) _⟩
          case measure => simp [intOf]; omega
        · rw [if_neg h4] at HROW
          go_wp2
          go_roundw
          case rel => exact ⟨k + 1, by go_num, by omega, HROW.out, ht0.far (by simp; omega) _, ht1.far (by simp) _, hB.setCell (by simp; omega) _⟩
          case measure => simp [intOf]; omega
    · obtain rfl : k = 288 := by omega
      have hnums := nums_row hrow fixL_length.symm
      clear hrow
      go_wp2_with fail
      refine (table_at _ _ _ fixL _ hnums fixL_length.symm (by rw [fixL_length]; omega) fixL_le).mono ?_
      rintro e w2 ⟨v1, rfl, ⟨A1, n1, k1, rfl⟩, how1, hb1⟩
      rw [fixL_right]
      have ho1 := how1 fixL_right
      have ht0' := ht0.below hb1 ht0.lt
      have ht1' := ht1.below hb1 ht1.lt
      have hB2 := hB.trans (hb1.mono (Nat.le_trans hB.size (Nat.le_refl _)))
      clear how1 hnums ht0 ht1
      go_wp2_with (refine wpList_store_row rfl 55 (.tmp 0) (.tmp 33) rfl w.heap.size (tabCells (fun n => fixL.count n) (.slice A1 n1 k1)) rfl rfl 55 _ ht0' ti55 rfl (tab_one _ rfl) ?_)
      have hu0 := ht0'.row_ (tabCells (fun n => fixL.count n) (.slice A1 n1 k1))
      have hu1 := ht1'.rowFar (k := w.heap.size) (by omega) (tabCells (fun n => fixL.count n) (.slice A1 n1 k1))
      have hB3 := below_row hB2 (Nat.le_refl _) (tabCells (fun n => fixL.count n) (.slice A1 n1 k1))
      have ho3 := own_row ho1 w.heap.size (tabCells (fun n => fixL.count n) (.slice A1 n1 k1)) (fun e => ht0'.own_ne ho1 (by decide) e.symm)
      have hsz : w2.heap.size = (w2.setRow w.heap.size (tabCells (fun n => fixL.count n) (.slice A1 n1 k1))).heap.size := by simp
      generalize w2.setRow w.heap.size (tabCells (fun n => fixL.count n) (.slice A1 n1 k1)) = w3 at *
      rw [hsz]
      clear ht0' ht1' hB2 ho1
      refine (repeat_any w3.heap.size 5 32 _ ((Blk.new w3 3 #[.int .i64 5]).cell 0) (by omega) (by omega)).mono ?_
      rintro e w4 ⟨rfl, hrow, hb4⟩
      rw [fixD_row, World.size_alloc] at hrow
      have hnums := nums_row hrow fixD_length.symm
      have hb34 : Below w3.heap.size w3 w4 := ((Below.refl _ w3).alloc (Nat.le_refl _) _).trans (hb4.mono (by simp))
      go_wp2_with fail
      refine (table_at _ _ _ fixD _ (by exact hnums) fixD_length.symm (by rw [fixD_length]; omega) fixD_le).mono ?_
      rintro e w5 ⟨v2, rfl, ⟨A2, n2, k2, rfl⟩, how2, hb5⟩
      rw [fixD_right]
      have hb35 := hb34.trans (hb5.mono hb34.size)
      have ho5 := own_below ho3 hb35
      have ho2 := own_base (how2 fixD_right) (Nat.le_trans hB3.size hb34.size)
      have hu0' := hu0.below hb35 hu0.lt
      have hu1' := hu1.below hb35 hu1.lt
      have hB5 := hB3.trans (hb35.mono hB3.size)
      have ho5' := own_base ho5 (by have := hB.size; omega)
      clear how2 hnums hu0 hu1 ho3 hb35 hb34 hb5 hb4 hB3 ho5
      go_wp2_with (refine wpList_store_row rfl 55 (.tmp 1) (.tmp 39) rfl (w.heap.size + 1) (tabCells (fun n => fixD.count n) (.slice A2 n2 k2)) rfl rfl 55 _ hu1' ti55 rfl (tab_one _ rfl) ?_)
      have hx1 := hu1'.row_ (tabCells (fun n => fixD.count n) (.slice A2 n2 k2))
      have hx0 := hu0'.rowFar (k := w.heap.size + 1) (by omega) (tabCells (fun n => fixD.count n) (.slice A2 n2 k2))
      have hB6 := below_row hB5 (by omega : w.heap.size ≤ w.heap.size + 1) (tabCells (fun n => fixD.count n) (.slice A2 n2 k2))
      have hoA := own_row ho5' (w.heap.size + 1) (tabCells (fun n => fixD.count n) (.slice A2 n2 k2)) (fun e => hu1'.own_ne ho5' (by decide) e.symm)
      have hoB := own_row ho2 (w.heap.size + 1) (tabCells (fun n => fixD.count n) (.slice A2 n2 k2)) (fun e => hu1'.own_ne ho2 (by decide) e.symm)
      generalize w5.setRow (w.heap.size + 1) (tabCells (fun n => fixD.count n) (.slice A2 n2 k2)) = w6 at *
      clear hu0' hu1' hB5 ho5' ho2
      refine wp_region_any (by kernel_rfl) ?_
      change wpAny _ _ _ _ 4 _ _ (World.drew _)
      repeat' (first
        | (with_reducible exact AllReady.nil)
        | ((with_reducible refine ar_guard ?_); refine AllReady.cons (o := { dst := some 41, op := .load 55 (.tmp 0), type := 55, pos := _, after := _, guard := none }) rfl (fun K hK => ?_) ?_; refine step_load_row rfl 55 (.tmp 0) rfl w.heap.size (by go_simp) 55 (tabCells (fun n => fixL.count n) (.slice A1 n1 k1)) (0, 0) _ (by exact hx0) Try.underlying55 rfl ti55 ?_; refine hK _ _ ?_; clear hK K)
        | ((with_reducible refine ar_guard ?_); refine AllReady.cons (o := { dst := some 42, op := .load 55 (.tmp 1), type := 55, pos := _, after := _, guard := none }) rfl (fun K hK => ?_) ?_; refine step_load_row rfl 55 (.tmp 1) rfl (w.heap.size + 1) (by go_simp) 55 (tabCells (fun n => fixD.count n) (.slice A2 n2 k2)) (0, 0) _ (by exact hx1) Try.underlying55 rfl ti55 ?_; refine hK _ _ ?_; clear hK K)
        | ((with_reducible refine ar_guard ?_); refine AllReady.cons (o := { dst := none, op := .store 55 (.tmp 0) (.tmp 41), type := 0, pos := _, after := _, guard := none }) rfl (fun K hK => ?_) ?_; refine step_store_row rfl 55 (.tmp 0) (.tmp 41) rfl w.heap.size (tabCells (fun n => fixL.count n) (.slice A1 n1 k1)) (by go_simp) (by go_simp) 55 (by exact hx0) ti55 (tab_one _ rfl) ?_; refine hK _ _ ?_; clear hK K)
        | ((with_reducible refine ar_guard ?_); refine AllReady.cons (o := { dst := none, op := .store 55 (.tmp 1) (.tmp 42), type := 0, pos := _, after := _, guard := none }) rfl (fun K hK => ?_) ?_; refine step_store_row rfl 55 (.tmp 1) (.tmp 42) rfl (w.heap.size + 1) (tabCells (fun n => fixD.count n) (.slice A2 n2 k2)) (by go_simp) (by go_simp) 55 (by exact hx1) ti55 (tab_one _ rfl) ?_; refine hK _ _ ?_; clear hK K)
        | ((with_reducible refine wpAny_ready (rs := [0, 1]) ?_ (by simp) ?_); decide +kernel)
        | ((with_reducible refine wpAny_ready (rs := [1, 2]) ?_ (by simp) ?_); decide +kernel)
        | ((with_reducible refine wpAny_ready (rs := [0]) ?_ (by simp) ?_); decide +kernel)
        | ((with_reducible refine wpAny_ready (rs := [1]) ?_ (by simp) ?_); decide +kernel)
        | ((with_reducible refine wpAny_ready (rs := [2]) ?_ (by simp) ?_); decide +kernel)
        | ((with_reducible refine wpAny_ready (rs := [3]) ?_ (by simp) ?_); decide +kernel)
        | ((with_reducible refine wpAny_done ?_ ?_ _); decide +kernel))
      all_goals
        go_simp
        go_wp2
        refine bodyPost_ret_by (results_tab2 f19_results rfl rfl (hx0.drewN 1) (hx1.drewN 1)) rfl ?_
        exact fixed_post hoA hoB hB6.drew

end Go.Proofs.Ythceefhnmjjddaa
