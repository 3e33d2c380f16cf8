/-
  Blocks of the heap; frames; a text's bytes and bits; the program's reader in memory.
-/
import Derived.Test.YthceefhnmjjddaaRows
import Derived.Test.YthceefhnmjjddaaSpec
import Derived.WalkKit
import Derived.WalkLawsBesides
import Derived.WalkSpells
import Derived.WalkSmall
import Derived.Deep.QuietTactic
import Derived.BigQuiet
import Derived.Lib.Hide
namespace Go.Proofs.Ythceefhnmjjddaa
open Go.RowKit

theorem ret_bool {a b : Bool} (h : a = b) : Ending.returned (.bool a) = .returned (.bool b) := by rw [h]
theorem ret_int {k : IntKind} {a b : Int} (h : a = b) : Ending.returned (.int k a) = .returned (.int k b) := by rw [h]

/-- Block g is just these cells, none frozen. -/
def Blk (w : World) (g : Nat) (t : TypeId) (cs : Array Value) : Prop := w.heap[g]? = some (.cells cs t (0, 0))
theorem Blk.cell {w : World} {g : Nat} {t : TypeId} {cs : Array Value} (h : Blk w g t cs) (i : Nat) : w.cell? ⟨g, i, none⟩ = cs[i]? := cell_of_row w g i cs t (0, 0) h
theorem Blk.frozen {w : World} {g : Nat} {t : TypeId} {cs : Array Value} (h : Blk w g t cs) (i : Nat) : w.frozen? ⟨g, i, none⟩ = false := by
  unfold Blk at h
  simp [World.frozen?, h]
theorem Blk.lt {w : World} {g : Nat} {t : TypeId} {cs : Array Value} (h : Blk w g t cs) : g < w.heap.size := by
  rcases Nat.lt_or_ge g w.heap.size with hlt | hge
  · exact hlt
  · unfold Blk at h; rw [Array.getElem?_eq_none hge] at h; cases h
theorem Blk.drewN {w : World} {g : Nat} {t : TypeId} {cs : Array Value} (h : Blk w g t cs) (n : Nat) : Blk (w.drewN n) g t cs := h
theorem Blk.set_ {w : World} {g : Nat} {t : TypeId} {cs : Array Value} (h : Blk w g t cs) (i : Nat) (u : Value) : Blk (w.setCell ⟨g, i, none⟩ u) g t (cs.setIfInBounds i u) := by
  unfold Blk at h ⊢
  simp [World.setCell, Array.getElem?_modify, h]
theorem Blk.far {w : World} {g : Nat} {t : TypeId} {cs : Array Value} (h : Blk w g t cs) {p : Addr} (hp : g ≠ p.block) (u : Value) : Blk (w.setCell p u) g t cs := (Below.heap_setCell w p u g hp).trans h
theorem Blk.ne_ {w : World} {g g' : Nat} {t t' : TypeId} {cs cs' : Array Value} (h : Blk w g t cs) (h' : Blk w g' t' cs') (hne : t ≠ t') : g ≠ g' := by
  rintro rfl
  unfold Blk at h h'
  rw [h] at h'
  injection h' with h'
  injection h' with _ ht
  exact hne ht
theorem Blk.new (w : World) (t : TypeId) (cs : Array Value) : Blk (w.alloc (.cells cs t)) w.heap.size t cs := heap_alloc_new w _
theorem Blk.new_ {w : World} {g : Nat} (t : TypeId) (cs : Array Value) (hg : g = w.heap.size) : Blk (w.alloc (.cells cs t)) g t cs := by subst hg; exact Blk.new w t cs
theorem Blk.alloc {w : World} {g : Nat} {t : TypeId} {cs : Array Value} (h : Blk w g t cs) (o : Obj) : Blk (w.alloc o) g t cs := (Below.heap_alloc w o g h.lt).trans h
theorem Blk.below {w w' : World} {g B : Nat} {t : TypeId} {cs : Array Value} (h : Blk w g t cs) (hb : Below B w w') (hg : g < B) : Blk w' g t cs := (hb.block g hg).trans h

theorem Blk.row_ {w : World} {g : Nat} {t : TypeId} {cs : Array Value} (h : Blk w g t cs) (cs' : Array Value) : Blk (w.setRow g cs') g t cs' := setRow_heap w g cs cs' t _ h
theorem Blk.rowFar {w : World} {g : Nat} {t : TypeId} {cs : Array Value} (h : Blk w g t cs) {k : Nat} (hp : g ≠ k) (cs' : Array Value) : Blk (w.setRow k cs') g t cs := (setRow_other w k g cs' hp).trans h

/-- Of the blocks that are, those of S alone may have turned; blocks may be new. -/
structure Only (S : List Nat) (w w' : World) : Prop where
  os : w'.os = w.os
  tape : w'.tape = w.tape
  output : w'.output = w.output
  size : w.heap.size ≤ w'.heap.size
  block : ∀ k, k < w.heap.size → k ∉ S → w'.heap[k]? = w.heap[k]?
theorem Only.refl (S : List Nat) (w : World) : Only S w w := ⟨rfl, rfl, rfl, Nat.le_refl _, fun _ _ _ => rfl⟩
theorem Only.trans {S : List Nat} {w x y : World} (h : Only S w x) (k : Only S x y) : Only S w y :=
  ⟨k.os.trans h.os, k.tape.trans h.tape, k.output.trans h.output, Nat.le_trans h.size k.size, fun i hl hi => (k.block i (Nat.lt_of_lt_of_le hl h.size) hi).trans (h.block i hl hi)⟩
theorem Only.of_below {S : List Nat} {w x : World} (h : Below w.heap.size w x) : Only S w x := ⟨h.os, h.tape, h.output, h.size, fun i hl _ => h.block i hl⟩
theorem Only.below {S : List Nat} {B : Nat} {w x : World} (h : Only S w x) (hB : B ≤ w.heap.size) (hS : ∀ k ∈ S, B ≤ k) : Below B w x :=
  ⟨h.os, h.tape, h.output, h.size, fun k hk => h.block k (by omega) (fun hm => by have := hS k hm; omega)⟩
theorem Only.mono {S S' : List Nat} {w x : World} (h : Only S w x) (hS : ∀ k ∈ S, k ∈ S' ∨ w.heap.size ≤ k) : Only S' w x :=
  ⟨h.os, h.tape, h.output, h.size, fun k hk hm => h.block k hk (fun hm' => by rcases hS k hm' with h1 | h1; exact hm h1; omega)⟩
theorem Only.drewN {S : List Nat} {w x : World} (h : Only S w x) (n : Nat) : Only S w (x.drewN n) := ⟨h.os, h.tape, h.output, h.size, h.block⟩
theorem Only.set {S : List Nat} {w x : World} (h : Only S w x) {b : Nat} (hb : b ∈ S ∨ w.heap.size ≤ b) (i : Nat) (u : Value) : Only S w (x.setCell ⟨b, i, none⟩ u) :=
  ⟨h.os, h.tape, h.output, by simpa [World.setCell] using h.size, fun k hk hm => (Below.heap_setCell _ _ _ _ (fun e => by have e' : k = b := e; rw [e'] at hm hk; rcases hb with h1 | h1; exact hm h1; omega)).trans (h.block k hk hm)⟩
theorem Only.row {S : List Nat} {w x : World} (h : Only S w x) {b : Nat} (hb : b ∈ S ∨ w.heap.size ≤ b) (cs : Array Value) : Only S w (x.setRow b cs) :=
  ⟨h.os, h.tape, h.output, by simpa using h.size, fun k hk hm => (setRow_other _ _ _ _ (fun e => by rw [e] at hm hk; rcases hb with h1 | h1; exact hm h1; omega)).trans (h.block k hk hm)⟩
theorem Only.alloc {S : List Nat} {w x : World} (h : Only S w x) (o : Obj) : Only S w (x.alloc o) :=
  h.trans (Only.of_below ((Below.refl _ x).alloc (Nat.le_refl _) o))
theorem Only.blk {S : List Nat} {k : Nat} {t : TypeId} {cs : Array Value} {w x : World} (h : Only S w x) (hk : Blk w k t cs) (h1 : k ∉ S) : Blk x k t cs := (h.block k hk.lt h1).trans hk

theorem Blk.grown {w w' : World} {g : Nat} {t : TypeId} {cs : Array Value} {row : Option Nat} (h : Blk w g t cs) (hg : w.grownBy w' row) (hne : some g ≠ row) : Blk w' g t cs := (hg.block g h.lt hne).trans h
theorem Blk.own_ne {w : World} {g : Nat} {t : TypeId} {cs : Array Value} {base : Nat} {e : TypeId} {size : Nat} {v : Value} {n : Nat} {xs : List Value} (h : Blk w g t cs) (ho : w.ownsRow base e size v n xs) (hne : t ≠ e) : some g ≠ v.ownBlock := by
  rcases ho.2 with ⟨rfl, _⟩ | ⟨g', cap, cur, rfl, _, hg, _⟩
  · intro h; cases h
  · intro h'
    injection h' with h'
    have h1 : w.heap[g]? = some (.cells cs t (0, 0)) := h
    rw [h', hg] at h1
    injection h1 with h1
    injection h1 with _ h1
    exact hne h1.symm
theorem Only.grown {S : List Nat} {w x y : World} {row : Option Nat} (h : Only S w x) (hg : x.grownBy y row) (hr : ∀ k, row = some k → k ∈ S ∨ w.heap.size ≤ k) : Only S w y :=
  ⟨hg.os.trans h.os, hg.tape.trans h.tape, hg.output.trans h.output, Nat.le_trans h.size hg.size, fun k hk hm => (hg.block k (Nat.lt_of_lt_of_le hk h.size) (fun e => by rcases hr k e.symm with h1 | h1; exact hm h1; omega)).trans (h.block k hk hm)⟩
/-- What the call owns, past what left its block as it was. -/
theorem own_block {w w' : World} {base : Nat} {e : TypeId} {size : Nat} {v : Value} {n : Nat} {xs : List Value} (h : w.ownsRow base e size v n xs) (hb : ∀ k, v.ownBlock = some k → w'.heap[k]? = w.heap[k]?) : w'.ownsRow base e size v n xs := by
  refine ⟨h.1, ?_⟩
  rcases h.2 with h2 | ⟨g, cap, cur, rfl, h3, h4, h5⟩
  · exact .inl h2
  · exact .inr ⟨g, cap, cur, rfl, h3, (hb g rfl).trans h4, h5⟩
theorem own_drewN {w : World} {base : Nat} {e : TypeId} {size : Nat} {v : Value} {n : Nat} {xs : List Value} (h : w.ownsRow base e size v n xs) (k : Nat) : (w.drewN k).ownsRow base e size v n xs := h
theorem own_set {w : World} {base : Nat} {e : TypeId} {size : Nat} {v : Value} {n : Nat} {xs : List Value} (h : w.ownsRow base e size v n xs) (p : Addr) (u : Value) (hp : some p.block ≠ v.ownBlock) : (w.setCell p u).ownsRow base e size v n xs :=
  own_block h fun k hk => Below.heap_setCell w p u k (fun e => hp (by rw [← e, hk]))

/-- The slice at A holds the bytes l, in a block that is none of S. -/
def BytesAt (w : World) (A : Option Addr) (l : List UInt8) : Prop :=
  l = [] ∨ ∃ b o, A = some ⟨b, o, none⟩ ∧ b < w.heap.size ∧ ∀ i, i < l.length → w.cell? ⟨b, o + i, none⟩ = some (.int .u8 ((l.getD i 0).toNat : Nat))
theorem BytesAt.keep {w w' : World} {A : Option Addr} {l : List UInt8} (h : BytesAt w A l) (hz : w.heap.size ≤ w'.heap.size) (hk : ∀ p : Addr, p.block < w.heap.size → (∀ a, A = some a → p.block = a.block) → w'.cell? p = w.cell? p) : BytesAt w' A l := by
  rcases h with h | ⟨b, o, e, hb, hc⟩
  · exact .inl h
  · exact .inr ⟨b, o, e, by omega, fun i hi => (hk ⟨b, o + i, none⟩ hb (fun a ha => by rw [e] at ha; injection ha with ha; rw [← ha])).trans (hc i hi)⟩
theorem BytesAt.below {w w' : World} {A : Option Addr} {l : List UInt8} (h : BytesAt w A l) (hb : Below w.heap.size w w') : BytesAt w' A l := h.keep hb.size fun _ hp _ => hb.cell hp
theorem BytesAt.drewN {w : World} {A : Option Addr} {l : List UInt8} (h : BytesAt w A l) (n : Nat) : BytesAt (w.drewN n) A l := h
theorem BytesAt.nil (w : World) (A : Option Addr) : BytesAt w A [] := .inl rfl
theorem BytesAt.only {w w' : World} {S : List Nat} {A : Option Addr} {l : List UInt8} (h : BytesAt w A l) (hO : Only S w w') (hS : ∀ a, A = some a → a.block ∉ S) : BytesAt w' A l := by
  rcases h with h | ⟨b, o, e, hb, hc⟩
  · exact .inl h
  · refine .inr ⟨b, o, e, Nat.lt_of_lt_of_le hb hO.size, fun i hi => ?_⟩
    rw [← hc i hi]
    simp only [World.cell?, hO.block b hb (hS _ e)]

/-- The reader at block b, over the text at A, ere the I-th bit. -/
structure Alive (w : World) (b : Nat) (A : Option Addr) (cap : Nat) (T : List UInt8) (I : Nat) : Prop where
  cells : ∃ rest n : Nat, Blk w b 46 #[.slice A T.length cap, .int .i64 ((I + 7) / 8 : Nat), .int .u64 (rest : Nat), .int .i64 (n : Nat), .int .i64 0] ∧ n + I = 8 * ((I + 7) / 8) ∧
    (0 < n → rest = (T.getD (I / 8) 0).toNat / 2 ^ (I % 8)) ∧ rest < 256
  text : BytesAt w A T
  far : ∀ a, A = some a → a.block ≠ b
  hI : I ≤ 8 * T.length

/-- The reader behind a fault: no bit is left in it. -/
def Dead (w : World) (b : Nat) (A : Option Addr) (cap : Nat) (T : List UInt8) : Prop :=
  ∃ at_ rest : Nat, Blk w b 46 #[.slice A T.length cap, .int .i64 (at_ : Nat), .int .u64 (rest : Nat), .int .i64 0, .int .i64 2]

/-- The reader behind whatever fault e. -/
def Halt (w : World) (b : Nat) (e : Int) : Prop := ∃ v0 v1 v2 v3, Blk w b 46 #[v0, v1, v2, v3, .int .i64 e]

end Go.Proofs.Ythceefhnmjjddaa
