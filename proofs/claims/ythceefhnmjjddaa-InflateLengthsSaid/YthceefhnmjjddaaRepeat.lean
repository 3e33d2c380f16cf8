/-
  slices.Repeat at one number, by a contract.
-/
import Derived.Test.YthceefhnmjjddaaTable
import Derived.Laws.CopyOwn
import Derived.OwnWalk
import Derived.Deep.DeepFit
import Derived.Deep.RegionLaw
namespace Go.Proofs.Ythceefhnmjjddaa
open Go.RowKit

def M32 : Nat := 4294967295
theorem mask_and (n : Nat) (h : n < 65536) : bits .and .u64 (n : Int) 4294967295 = (n : Int) := by
  have h2 : ((4294967295 : Nat) : Int) = 4294967295 := rfl
  rw [← h2, (bits_nat .u64 62 (by decide) (fun n h0 h1 => by rw [IntKind.wrap_u64]; omega) n 4294967295 (by omega) (by omega)).1]
  have := Nat.and_two_pow_sub_one_eq_mod n 32
  rw [show 2 ^ 32 - 1 = 4294967295 from rfl] at this
  rw [this]
  omega

theorem mul64_one (n : Nat) (h : n < 65536) (w : World) : Calls Try.prog 43 #[.int .u64 1, .int .u64 (n : Nat)] w fun e w' => e = .returned (.tuple #[.int .u64 0, .int .u64 (n : Nat)]) ∧ w = w' := by
  have hm := mask_and n h
  have hm1 : bits .and .u64 (1 : Int) 4294967295 = 1 := mask_and 1 (by omega)
  have hd : (n : Int) / 4294967296 = 0 := by omega
  go_enter Try.func43, Try.ntmps43
  go_wp2
  go_ret2
  exact ⟨rfl, rfl⟩

theorem mul_one (n : Nat) (h : n < 65536) (w : World) : Calls Try.prog 41 #[.int .u64 1, .int .u64 (n : Nat)] w fun e w' => e = .returned (.tuple #[.int .u64 0, .int .u64 (n : Nat)]) ∧ w = w' := by
  go_enter Try.func41, Try.ntmps41
  go_wp2_with (go_at_call 43; refine (mul64_one n h _).mono ?_; rintro e w' ⟨rfl, rfl⟩)
  go_ret2
  exact ⟨rfl, rfl⟩

theorem ti3 : (Try.prog.info? 3).map (·.size) = some 1 := by kernel_rfl
/-- m of n filled with x. -/
def repV (m n : Nat) (x : Int) : List Value := List.replicate m (.int .i64 x) ++ List.replicate (n - m) (.int .i64 0)
theorem repV_length {m n : Nat} (x : Int) (h : m ≤ n) : (repV m n x).length = n := by simp [repV]; omega
theorem repV_splice {m n k : Nat} (x : Int) (h : m + k ≤ n) : splice (repV m n x) m (List.replicate k (.int .i64 x)) = repV (m + k) n x := by
  unfold splice repV
  rw [List.take_left' (by simp), List.length_replicate, List.drop_append, List.drop_eq_nil_of_le (by simp), List.nil_append, List.length_replicate, List.drop_replicate, ← List.append_assoc, List.replicate_append_replicate]
  congr 2
  omega
theorem repV_zero (n : Nat) (x : Int) : repV 0 n x = List.replicate n (.int .i64 0) := by simp [repV]
theorem repV_full (n : Nat) (x : Int) : repV n n x = List.replicate n (.int .i64 x) := by simp [repV]
theorem repV_get {m n j : Nat} {x : Int} {k : Nat} {v : Value} (h : (List.replicate k (Value.int .i64 x))[j]? = some v) (hk : k ≤ m) : (repV m n x)[j]? = some v := by
  rw [List.getElem?_replicate] at h
  split at h
  · injection h with h
    subst h
    unfold repV
    rw [List.getElem?_append_left (by simp; omega), List.getElem?_replicate, if_pos (by omega)]
  · cases h
theorem addr_add (g o i : Nat) : (⟨g, o, none⟩ : Addr).add i = ⟨g, o + i, none⟩ := by
  unfold Addr.add
  split
  · rename_i h; subst h; rfl
  · rfl

theorem one_src {w : World} {g o : Nat} {v : Value} (h : w.cell? ⟨g, o, none⟩ = some v) : ∀ j u, [v][j]? = some u → w.cell? ((⟨g, o, none⟩ : Addr).add j) = some u := by
  intro j u hj
  rcases j with _ | j
  · simp at hj; subst hj; rw [addr_add]; exact h
  · simp at hj
theorem own_full {w : World} {base g n : Nat} {e : TypeId} {xs : List Value} (h : w.ownsRow base e 1 (.slice (some ⟨g, 0, none⟩) n n) n xs) (ys : List Value) (hy : xs = ys) : w.heap[g]? = some (.cells ys.toArray e (0, 0)) := by
  subst hy
  rcases h.2 with ⟨hv, _⟩ | ⟨g', cap, cur, hv, hb, hg, hnc, hcm, hcs, htk⟩
  · cases hv
  · injection hv with h1 h2 h3
    injection h1 with h1
    injection h1 with h1
    subst h1 h3
    rw [List.take_of_length_le (by simp; omega)] at htk
    rw [hg, ← htk]

/-- What Repeat gives. -/
def Repeated (x : Int) (n : Nat) (w : World) (e : Ending) (w' : World) : Prop :=
  e = .returned (.slice (some ⟨w.heap.size, 0, none⟩) n n) ∧ w'.heap[w.heap.size]? = some (.cells (repV n n x).toArray 3 (0, 0)) ∧ Below w.heap.size w w'

set_option maxHeartbeats 1000000 in
set_option maxRecDepth 100000 in
theorem repeat_any (g : Nat) (x : Int) (n : Nat) (w : World) (hg : w.cell? ⟨g, 0, none⟩ = some (.int .i64 x)) (hn : 1 ≤ n) (hn2 : n ≤ 60000) :
    Calls Try.prog 34 #[.slice (some ⟨g, 0, none⟩) 1 1, .int .i64 (n : Nat)] w (Repeated x n w) := by
  obtain ⟨i0, hi, hz0, hz1, hz2⟩ := info_parts info3
  have hglt := World.block_lt_of_cell? _ _ hg
  have hgw := Lib.hid hg
  clear hg
  have hd1 : decide ((n : Int) < 0) = false := by simp
  have hd2 : decide ((9223372036854775807 : Int) < (n : Int)) = false := by simp; omega
  go_enter Try.func34, Try.ntmps34
  go_wp2_with (first
    | (go_at_call 41; refine (mul_one n (by omega) _).mono ?_; rintro e w' ⟨rfl, rfl⟩)
    | (refine wpList_make_full _ rfl (.tmp 29) (.tmp 29) 28 rfl w.heap.size 3 i0 (.int .i64 0) 1 Try.underlying28 hi hz0 hz1 .i64 .i64 _ _ n rfl rfl rfl rfl (by rw [hz2]; omega) (by unfold maxLen; omega) (Nat.le_refl _) ?_; intro w1 hown1 hgrow1; have hb1 := (Below.refl w.heap.size w).grown hgrow1 (Nat.le_refl _) (by simp); have hgc := (hb1.cell (p := ⟨g, 0, none⟩) hglt).trans hgw.out; have hrow1 := Lib.hid (own_full hown1 (repV 0 n x) (by rw [repV_zero]; simp only [Value.cells, Nat.mul_one]; exact toList_madeCells_one _ _)); clear hown1 hgrow1)
    | (refine wpList_copy_splice rfl (.tmp 31) (.tmp 32) 28 28 rfl 3 Try.underlying28 ti3 (some ⟨w.heap.size, 0, none⟩) (some ⟨g, 0, none⟩) n n 1 1 rfl rfl w.heap.size 0 (repV 0 n x) 3 hrow1.out [.int .i64 x] (Nat.min_eq_left hn).symm (fun _ => ⟨rfl, _, rfl, one_src hgc⟩) (by rw [repV_length x (by omega)]; simp; omega) (by simp [Value.oneCell']) w.heap.size w hb1 (Nat.le_refl _) ?_; intro w2 hrow2 hb2; replace hrow2 : Hid (w2.heap[w.heap.size]? = some (.cells (repV 1 n x).toArray 3 (0, 0))) := hrow2.trans (by rw [show [Value.int IntKind.i64 x] = List.replicate 1 (.int .i64 x) from rfl, repV_splice x (by omega)])))
  go_loopw [8] (fun m wr => ∃ k : Nat, m = .int .i64 (k : Nat) ∧ 1 ≤ k ∧ k ≤ n ∧ wr.heap[w.heap.size]? = some (.cells (repV k n x).toArray 3 (0, 0)) ∧ Below w.heap.size w wr) (fun m _ => n - (intOf m).toNat)
  case atStart => exact ⟨1, rfl, by omega, hn, hrow2.out, hb2⟩
  case round =>
    clear hrow2 hb2 hrow1 hb1 hgc
    obtain ⟨m, rfl, hm1, hmn, hrow, hbel⟩ := hrel
    have HROW := Lib.hid hrow
    clear hrow
    by_cases hlt : m < n
    · obtain ⟨c, hc⟩ : ∃ c, min m (n - m) = c := ⟨_, rfl⟩
      have hcm : c ≤ m := by omega
      have hcn : m + c ≤ n := by omega
      have hc1 : 1 ≤ c := by omega
      have hcl : (List.replicate c (Value.int .i64 x)).length = c := by simp
      have hb1 : (m : Int) ≤ (n : Int) := by omega
      have hb0 : (0 : Int) ≤ (m : Int) := by omega
      have hlb : decide ((m : Int) < (n : Int)) = true := by simp; omega
      have hnm : ¬ n = m := by omega
      have hsum : IntKind.i64.wrap ((m : Int) + (c : Int)) = (m : Int) + (c : Int) := IntWalk.i64_in _ (by omega)
      have HC := Lib.hid hc
      have HCL := Lib.hid hcl
      clear hc hcl
      go_wp2_with fail
      go_region_law (refine step_copy_splice rfl (.tmp 41) (.tmp 44) 28 28 rfl 3 Try.underlying28 ti3 (some ⟨w.heap.size, m, none⟩) (some ⟨w.heap.size, 0, none⟩) (n - m) (n - m) m n (by go_simp) (by go_simp) w.heap.size m (repV m n x) 3 (by exact HROW.out) (List.replicate c (.int .i64 x)) (by rw [HCL.out]; exact HC.out.symm) (fun _ => ⟨rfl, _, rfl, fun j v hv => by rw [addr_add, Nat.zero_add]; exact (cell_of_row _ _ _ _ _ _ HROW.out).trans (by rw [List.getElem?_toArray]; exact repV_get hv hcm)⟩) (by rw [repV_length x (by omega), HCL.out]; exact hcn) (by intro v hv; rw [List.eq_of_mem_replicate hv]; rfl) w.heap.size w (by exact hbel.drew) (Nat.le_refl _) ?_; intro w4 hg4 hb4; rw [repV_splice x hcn] at hg4; rw [HCL.out])
      clear hsum
      go_simp
      go_wp2
      go_roundw
      case rel => exact ⟨m + c, by go_num, by omega, hcn, hg4.out, hb4⟩
      case measure => simp [intOf]; omega
    · obtain rfl : m = n := by omega
      go_wp2
      go_ret
      exact ⟨rfl, HROW.out, hbel⟩

end Go.Proofs.Ythceefhnmjjddaa
