/-
  The writer's add, by a contract.
-/
import Derived.Test.YthceefhnmjjddaaLength
namespace Go.Proofs.Ythceefhnmjjddaa
open Go.RowKit

theorem info5 : (Try.prog.info? 5).map (fun i => (i.zero, i.size, i.bytes)) = some (some (.int .u8 0), 1, 1) := by kernel_rfl
def bytesV (l : List UInt8) : List Value := l.map fun b => .int .u8 (b.toNat : Nat)
theorem bytesV_length (l : List UInt8) : (bytesV l).length = l.length := by simp [bytesV]
theorem bytesV_append (a b : List UInt8) : bytesV (a ++ b) = bytesV a ++ bytesV b := by simp [bytesV]
theorem bytesV_one (l : List UInt8) : ∀ u ∈ bytesV l, u.oneCell' = true := by
  intro u hu
  simp [bytesV] at hu
  obtain ⟨b, _, rfl⟩ := hu
  rfl

theorem Only.step {S S' : List Nat} {w x y : World} (h : Only S w x) (k : Only S' x y) (hS : ∀ i ∈ S', i ∈ S ∨ w.heap.size ≤ i) : Only S w y :=
  ⟨k.os.trans h.os, k.tape.trans h.tape, k.output.trans h.output, Nat.le_trans h.size k.size, fun i hl hi => (k.block i (Nat.lt_of_lt_of_le hl h.size) (fun hm => by rcases hS i hm with h1 | h1; exact hi h1; omega)).trans (h.block i hl hi)⟩
theorem Alive.only {S : List Nat} {w w' : World} {b : Nat} {A : Option Addr} {cap : Nat} {T : List UInt8} {I : Nat} (h : Alive w b A cap T I) (hO : Only S w w') (hb : b ∉ S) (hA : ∀ a, A = some a → a.block ∉ S) : Alive w' b A cap T I := by
  obtain ⟨⟨rest, n, hc, hr⟩, htx, hf, hI⟩ := h
  exact ⟨⟨rest, n, hO.blk hc hb, hr⟩, htx.only hO hA, hf, hI⟩

/-- The writer at block wb: what came. -/
structure WAt (w : World) (wb : Nat) (v : Value) (l : List UInt8) : Prop where
  cells : Blk w wb 49 #[v]
  own : w.ownsRow 0 5 1 v l.length (bytesV l)
theorem WAt.only {S : List Nat} {w w' : World} {wb : Nat} {v : Value} {l : List UInt8} (h : WAt w wb v l) (hO : Only S w w') (h1 : wb ∉ S) (h2 : ∀ g, v.ownBlock = some g → g ∉ S) : WAt w' wb v l :=
  ⟨hO.blk h.cells h1, own_block h.own fun k hk => hO.block k (h.own.lt k hk).2 (h2 k hk)⟩

def ownL (v : Value) : List Nat := v.ownBlock.toList
theorem mem_ownL {v : Value} {g : Nat} : g ∈ ownL v ↔ v.ownBlock = some g := by simp [ownL]

/-- What add gives. -/
def Added (rb wb : Nat) (v : Value) (l : List UInt8) (x : UInt8) (w : World) (e : Ending) (w' : World) : Prop :=
  e = .returned (.tuple #[]) ∧
    if l.length < 65536 then ∃ v', WAt w' wb v' (l ++ [x]) ∧ Only (wb :: ownL v) w w' ∧ (∀ g, v'.ownBlock = some g → v.ownBlock = some g ∨ w.heap.size ≤ g)
    else Halt w' rb 3 ∧ Only [rb] w w'
theorem added_yes {rb wb : Nat} {v v' : Value} {l : List UInt8} {x : UInt8} {w w' : World} (hl : l.length < 65536) (h1 : WAt w' wb v' (l ++ [x])) (h2 : Only (wb :: ownL v) w w') (h3 : ∀ g, v'.ownBlock = some g → v.ownBlock = some g ∨ w.heap.size ≤ g) :
    Added rb wb v l x w (.returned (.tuple #[])) w' := ⟨rfl, by rw [if_pos hl]; exact ⟨v', h1, h2, h3⟩⟩
theorem added_no {rb wb : Nat} {v : Value} {l : List UInt8} {x : UInt8} {w w' : World} (hl : ¬ l.length < 65536) (h1 : Halt w' rb 3) (h2 : Only [rb] w w') :
    Added rb wb v l x w (.returned (.tuple #[])) w' := ⟨rfl, by rw [if_neg hl]; exact ⟨h1, h2⟩⟩

set_option maxHeartbeats 1000000 in
set_option maxRecDepth 100000 in
theorem add_any (rb wb g : Nat) (A : Option Addr) (cap : Nat) (T : List UInt8) (I : Nat) (v : Value) (l : List UInt8) (x : UInt8) (w : World) (hr : Alive w rb A cap T I) (hw : WAt w wb v l) (hl : l.length ≤ 65536)
    (hg : w.cell? ⟨g, 0, none⟩ = some (.int .u8 (x.toNat : Nat))) :
    Calls Try.prog 33 #[.pointer (some ⟨wb, 0, none⟩), .pointer (some ⟨rb, 0, none⟩), .slice (some ⟨g, 0, none⟩) 1 1] w (Added rb wb v l x w) := by
  obtain ⟨i0, hi, hz0, hz1, hz2⟩ := info_parts info5
  obtain ⟨A', c', rfl⟩ := own_slice hw.own
  have hc0 := hw.cells.cell 0
  have hf0 := hw.cells.frozen 0
  simp at hc0
  obtain ⟨h4, f4⟩ := hr.e0
  have hne := hw.cells.own_ne hw.own (by decide)
  have how := hw.own
  by_cases hlt : l.length < 65536
  · have HL := Lib.hid hlt
    have hlt' : ¬ (65536 < (l.length : Int) + 1) := by omega
    clear hlt
    go_enter Try.func33, Try.ntmps33
    go_wp2_with (at_builtin; refine wpList_append_lies _ rfl _ _ 22 rfl 0 5 i0 (.int .u8 0) 1 1 Try.underlying22 hi hz0 hz1 hz2 rfl (by decide) _ _ _ rfl how ⟨g, 0, none⟩ 1 1 [.int .u8 (x.toNat : Nat)] rfl rfl (by intro j u hu; rcases j with _ | j; (simp at hu; subst hu; exact hg); simp at hu) (by simp [Value.oneCell']) (by decide) (by unfold maxLen; omega) (by omega) (by omega) w.heap.size rfl ?_; intro g2 cap2 w2 hown2 hgrow2 hat hlt2; have hb2 := hw.cells.grown hgrow2 hne; have hc2 := hb2.cell 0; have hf2 := hb2.frozen 0; simp at hc2; clear hc0 hf0)
    go_end0
    have hv2 : (Value.slice (some ⟨g2, 0, none⟩) (l.length + 1) cap2).ownBlock = some g2 := rfl
    have hne2 := hb2.own_ne hown2 (by decide)
    refine added_yes HL.out ⟨hb2.set_ 0 _, by rw [List.length_append, bytesV_append]; exact own_set hown2 ⟨wb, 0, none⟩ _ hne2⟩ (((Only.refl (wb :: ownL _) w).grown hgrow2 (fun k hk => .inl (List.mem_cons_of_mem _ (mem_ownL.2 hk)))).set (.inl (List.mem_cons_self ..)) 0 _) ?_
    intro k hk
    rw [hv2] at hk
    injection hk with hk
    subst hk
    rcases hat with h | h
    · exact .inl h
    · exact .inr (by omega)
  · have HL := Lib.hid hlt
    have hlt' : 65536 < (l.length : Int) + 1 := by omega
    clear hlt
    go_enter Try.func33, Try.ntmps33
    go_wp2
    go_end0
    exact added_no HL.out (hr.halt 3) ((Only.refl _ _).set (by simp) _ _)
end Go.Proofs.Ythceefhnmjjddaa
