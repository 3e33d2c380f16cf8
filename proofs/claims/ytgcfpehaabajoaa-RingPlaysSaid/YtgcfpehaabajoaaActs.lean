/-
  A list of acts that came in, opened to its cells.
-/
import Derived.Test.YtgcfpehaabajoaaCopies
import Derived.ProofKit
import Derived.OpenShut
import Derived.ShutString
import Derived.ChangeOld
import Derived.ChangeSame
import Derived.Deep.Slices
import Derived.Deep.Strs
namespace Go.Proofs.Ytgcfpehaabajoaa
open Go.ChangeShapes Go.WideShapes Go.ChangeAt Go.RowKit Go.Deep

/-- The three cells of each act, in a slice of acts that came in. -/
theorem open_acts {H : Type} {enc : TypeId × Value → H} {w : World} {base : Nat} {spare : Nat → Bool} {held : Bool} {fuel : Nat} {cs : List Value} {x : DataW H × List MemPlace}
    (h : DataW.trod enc Try.prog w base spare held fuel 33 cs = some x) :
    cs = [.slice none 0 0] ∨ ∃ (a : Addr) (len cap : Nat), cs = [.slice (some a) len cap] ∧ len ≤ maxLen ∧
      ∀ i, i < len → ∃ k i2 x : Int, w.cell? ((a.add (i * 3)).add 0) = some (.int .i64 k) ∧ w.cell? ((a.add (i * 3)).add 1) = some (.int .i64 i2) ∧ w.cell? ((a.add (i * 3)).add 2) = some (.int .i64 x) := by
  rcases open_slice Try.underlying33 h with ⟨h0, _⟩ | ⟨a, len, cap, m, n, D, Pl, hcs, _, hl, hm, hmm, _, hi⟩
  · exact .inl h0
  · have hml : len ≤ m := by rw [hmm]; split <;> omega
    refine .inr ⟨a, len, cap, hcs, by omega, fun i him => ?_⟩
    obtain ⟨c3, hc, ht⟩ := hi i (by omega)
    rw [show Try.prog.cellsOf 35 = 3 by kernel_rfl] at hc
    obtain ⟨_, hcl, hat⟩ := World.cells?_some hc
    obtain ⟨y0, y1, y2, n', _, _, t0, t1, t2⟩ := trod_struct3 Try.underlying35 ht
    match c3, hcl with
    | [u0, u1, u2], _ =>
      rw [show Try.prog.cellsOf 3 = 1 by kernel_rfl] at t0 t1 t2
      obtain ⟨k, hk, _⟩ := DataW.trod_int Try.underlying3 t0
      obtain ⟨i2, hi2, _⟩ := DataW.trod_int Try.underlying3 t1
      obtain ⟨x, hx, _⟩ := DataW.trod_int Try.underlying3 t2
      have e0 : u0 = .int .i64 k := by simpa using hk
      have e1 : u1 = .int .i64 i2 := by simpa using hi2
      have e2 : u2 = .int .i64 x := by simpa using hx
      subst e0 e1 e2
      exact ⟨k, i2, x, hat 0 (by omega), hat 1 (by omega), hat 2 (by omega)⟩

theorem addr_add (b off i : Nat) : Addr.add ⟨b, off, none⟩ i = ⟨b, off + i, none⟩ := by
  unfold Addr.add
  split
  · rename_i h; subst h; rfl
  · rfl

theorem acts_open {H : Type} {enc : TypeId × Value → H} {W : World} {base : Nat} {spare : Nat → Bool} {held : Bool} {a1 : Option Addr} {len1 cap1 : Nat} {d : DataW H} {p : List MemPlace}
    (h1 : DataW.Trod enc Try.prog W base spare held 33 (.slice a1 len1 cap1) d p) : ∃ F : Nat → Int × Int × Int, ActsAt W a1 len1 F ∧ len1 ≤ maxLen := by
  obtain ⟨fuel, hf⟩ := h1
  rcases open_acts hf with hcs | ⟨x, l, c, hcs, hm, hcell⟩
  · simp [Value.cells] at hcs
    obtain ⟨rfl, rfl, rfl⟩ := hcs
    exact ⟨fun _ => (0, 0, 0), fun i hi => absurd hi (by omega), by unfold maxLen; omega⟩
  · simp [Value.cells] at hcs
    obtain ⟨rfl, rfl, rfl⟩ := hcs
    obtain ⟨b, off, spot⟩ := x
    by_cases hz : len1 = 0
    · subst hz
      exact ⟨fun _ => (0, 0, 0), fun i hi => absurd hi (by omega), by unfold maxLen; omega⟩
    · have hspot : spot = none := by
        obtain ⟨k, i2, x, h0, _⟩ := hcell 0 (by omega)
        have h0' := World.cell?_spot h0
        simpa [Addr.add] using h0'
      subst hspot
      simp only [addr_add, Nat.add_zero] at hcell
      refine ⟨fun i => if h : i < len1 then ((hcell i h).choose, (hcell i h).choose_spec.choose, (hcell i h).choose_spec.choose_spec.choose) else (0, 0, 0), fun i hi' => ?_, by omega⟩
      obtain ⟨c0, c1, c2⟩ := (hcell i hi').choose_spec.choose_spec.choose_spec
      refine ⟨b, off, rfl, World.block_lt_of_cell? _ _ c0, ?_, ?_, ?_⟩
      · simp only [dif_pos hi']; exact c0
      · simp only [dif_pos hi']; exact c1
      · simp only [dif_pos hi']; exact c2

end Go.Proofs.Ytgcfpehaabajoaa
