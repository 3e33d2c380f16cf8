/-
  The reader's length and distance, by contracts.
-/
import Derived.Test.YthceefhnmjjddaaSign
import Derived.Deep.RegionWith
namespace Go.Proofs.Ythceefhnmjjddaa
open Go.RowKit

/-- What the calls of length and distance give. -/
def Measured (o : Option (Nat × Nat)) (b : Nat) (A : Option Addr) (cap : Nat) (T : List UInt8) (w : World) (e : Ending) (w' : World) : Prop :=
  match o with
  | some (s, I') => e = .returned (.int .i64 (s : Nat)) ∧ Alive w' b A cap T I' ∧ Only [b] w w'
  | none => (∃ n : Int, e = .returned (.int .i64 n)) ∧ Halt w' b 2 ∧ Only [b] w w'
theorem measured_some {o : Option (Nat × Nat)} {b : Nat} {A : Option Addr} {cap : Nat} {T : List UInt8} {w w' : World} {s I' : Nat} {n : Int} (ho : o = some (s, I')) (hs : n = (s : Nat)) (ha : Alive w' b A cap T I') (hO : Only [b] w w') :
    Measured o b A cap T w (.returned (.int .i64 n)) w' := by
  subst ho hs; exact ⟨rfl, ha, hO⟩
theorem measured_none {o : Option (Nat × Nat)} {b : Nat} {A : Option Addr} {cap : Nat} {T : List UInt8} {w w' : World} {n : Int} (ho : o = none) (ha : Halt w' b 2) (hO : Only [b] w w') :
    Measured o b A cap T w (.returned (.int .i64 n)) w' := by
  subst ho; exact ⟨⟨_, rfl⟩, ha, hO⟩

theorem Alive.same {w w' : World} {b : Nat} {A : Option Addr} {cap : Nat} {T : List UInt8} {I : Nat} (h : Alive w b A cap T I) (hh : w'.heap = w.heap) : Alive w' b A cap T I := by
  obtain ⟨⟨rest, n, hb, hr⟩, htx, hf, hI⟩ := h
  refine ⟨⟨rest, n, ?_, hr⟩, ?_, hf, hI⟩
  · unfold Blk at *; rw [hh]; exact hb
  · rcases htx with h | ⟨b, o, e, hb, hc⟩
    · exact .inl h
    · exact .inr ⟨b, o, e, by rw [hh]; exact hb, fun i hi => by rw [← hc i hi]; simp [World.cell?, hh]⟩
theorem Only.same {S : List Nat} {w w' x : World} (h : Only S w x) (hh : w.heap = w'.heap) (h1 : w.os = w'.os) (h2 : w.tape = w'.tape) (h3 : w.output = w'.output) : Only S w' x :=
  ⟨h.os.trans h1, h.tape.trans h2, h.output.trans h3, by rw [← hh]; exact h.size, fun k hk hm => by rw [← hh] at hk ⊢; exact h.block k hk hm⟩

set_option maxHeartbeats 1000000 in
set_option maxRecDepth 100000 in
theorem length_any (b : Nat) (A : Option Addr) (cap : Nat) (T : List UInt8) (I s : Nat) (w : World) (h : Alive w b A cap T I) (hT : T.length ≤ 1048576) (hs : 257 ≤ s) (hs2 : s ≤ 1000) :
    Calls Try.prog 37 #[.pointer (some ⟨b, 0, none⟩), .int .i64 (s : Nat)] w (Measured (lengthS T s I) b A cap T w) := by
  by_cases h1 : s < 265
  · have ho : lengthS T s I = some (s - 254, I) := by unfold lengthS; rw [if_pos h1]
    have HO := Lib.hid ho
    clear ho
    go_enter Try.func37, Try.ntmps37
    go_wp2
    go_ret
    exact measured_some HO.out (by omega) h (Only.refl _ _)
  by_cases h2 : s = 285
  · subst h2
    have ho : lengthS T 285 I = some (258, I) := by unfold lengthS; rfl
    have HO := Lib.hid ho
    clear ho
    go_enter Try.func37, Try.ntmps37
    go_wp2
    go_ret
    exact measured_some HO.out rfl h (Only.refl _ _)
  by_cases h3 : 285 < s
  · have ho : lengthS T s I = none := by unfold lengthS; rw [if_neg h1, if_neg h2, if_pos h3]
    have HO := Lib.hid ho
    obtain ⟨h4, f4⟩ := h.e0
    have hsb : ((s : Int) == 285) = false := by simp; omega
    clear ho h2
    go_enter Try.func37, Try.ntmps37
    go_wp2
    go_ret
    exact measured_none HO.out (h.halt 2) ((Only.refl _ _).set (by simp) _ _)
  · have ho : lengthS T s I = moreS (3 + (4 + (s - 261) % 4) * 2 ^ ((s - 261) / 4)) (numS T (some I) ((s - 261) / 4)) := by unfold lengthS; rw [if_neg h1, if_neg h2, if_neg h3]
    obtain ⟨m, hm⟩ : ∃ m, (s - 261) / 4 = m := ⟨_, rfl⟩
    obtain ⟨q, hq⟩ : ∃ q, (s - 261) % 4 = q := ⟨_, rfl⟩
    have hm5 : m ≤ 5 := by omega
    have hq3 : q ≤ 3 := by omega
    have hmi : ((s : Int) - 261) / 4 = (m : Int) := by omega
    have hqi : ((s : Int) - 261).tmod 4 = (q : Int) := by rw [Int.tmod_eq_emod_of_nonneg (by omega)]; omega
    have hsb : ((s : Int) == 285) = false := by simp; omega
    rw [hm, hq] at ho
    have hlt := numS_lt T (some I) m
    have hp : 2 ^ m ≤ 2 ^ 5 := Nat.pow_le_pow_right (by omega) hm5
    have hs261 : IntKind.i64.wrap ((s : Int) - 261) = (s : Int) - 261 := IntWalk.i64_in _ (by omega)
    have hN : ∀ W : World, Alive W b A cap T I → Calls Try.prog 17 #[.pointer (some ⟨b, 0, none⟩), .int .i64 (m : Int)] W _ := fun W hW => number_any b A cap T (some I) m (m : Int) W hW hT rfl (by omega)
    generalize numS T (some I) m = r at *
    obtain ⟨v, st⟩ := r
    simp only at hlt hN
    obtain ⟨P, hP⟩ : ∃ P, (4 + q) * 2 ^ m = P := ⟨_, rfl⟩
    have hPl : P ≤ 7 * 2 ^ 5 := by rw [← hP]; exact Nat.mul_le_mul (by omega) hp
    rw [hP] at ho
    have hr2 : IntKind.i64.wrap (4 + (q : Int)) = 4 + (q : Int) := IntWalk.i64_in _ (by omega)
    have hP' : (4 + (q : Int)) * 2 ^ m = (P : Int) := by rw [← hP]; simp
    have hr3 : IntKind.i64.wrap ((4 + (q : Int)) * 2 ^ m) = (P : Int) := by rw [hP']; exact IntWalk.i64_in _ (by omega)
    have hr4 : IntKind.i64.wrap (3 + (P : Int)) = 3 + (P : Int) := IntWalk.i64_in _ (by omega)
    have hr5 : IntKind.i64.wrap (3 + (P : Int) + (v : Int)) = 3 + (P : Int) + (v : Int) := IntWalk.i64_in _ (by omega)
    have HO := Lib.hid ho
    have HN := Lib.hid hN
    clear ho hN h2 hm hq hP hP'
    go_enter Try.func37, Try.ntmps37
    go_wp2_with fail
    go_region_with (go_at_call 17; refine (HN.out _ (by exact h.same rfl)).mono ?_; rintro e w1 ⟨rfl, hst, hO1⟩)
    go_wp2
    go_ret
    cases st with
    | some I' => exact measured_some HO.out (by omega) hst (hO1.same rfl rfl rfl rfl)
    | none => exact measured_none HO.out hst.halt (hO1.same rfl rfl rfl rfl)

set_option maxHeartbeats 1000000 in
set_option maxRecDepth 100000 in
theorem distance_any (b : Nat) (A : Option Addr) (cap : Nat) (T : List UInt8) (I s : Nat) (w : World) (h : Alive w b A cap T I) (hT : T.length ≤ 1048576) (hs2 : s ≤ 1000) :
    Calls Try.prog 38 #[.pointer (some ⟨b, 0, none⟩), .int .i64 (s : Nat)] w (Measured (distS T s I) b A cap T w) := by
  by_cases h1 : s < 4
  · have ho : distS T s I = some (s + 1, I) := by unfold distS; rw [if_pos h1]
    have HO := Lib.hid ho
    clear ho
    go_enter Try.func38, Try.ntmps38
    go_wp2
    go_ret
    exact measured_some HO.out (by omega) h (Only.refl _ _)
  by_cases h3 : 29 < s
  · have ho : distS T s I = none := by unfold distS; rw [if_neg h1, if_pos h3]
    have HO := Lib.hid ho
    obtain ⟨h4, f4⟩ := h.e0
    clear ho
    go_enter Try.func38, Try.ntmps38
    go_wp2
    go_ret
    exact measured_none HO.out (h.halt 2) ((Only.refl _ _).set (by simp) _ _)
  · have ho : distS T s I = moreS (1 + (2 + s % 2) * 2 ^ ((s - 2) / 2)) (numS T (some I) ((s - 2) / 2)) := by unfold distS; rw [if_neg h1, if_neg h3]
    obtain ⟨m, hm⟩ : ∃ m, (s - 2) / 2 = m := ⟨_, rfl⟩
    obtain ⟨q, hq⟩ : ∃ q, s % 2 = q := ⟨_, rfl⟩
    have hm5 : m ≤ 13 := by omega
    have hq3 : q ≤ 1 := by omega
    have hmi : ((s : Int) - 2) / 2 = (m : Int) := by omega
    have hqi : (s : Int).tmod 2 = (q : Int) := by rw [Int.tmod_eq_emod_of_nonneg (by omega)]; omega
    rw [hm, hq] at ho
    have hlt := numS_lt T (some I) m
    have hp : 2 ^ m ≤ 2 ^ 13 := Nat.pow_le_pow_right (by omega) hm5
    have hN : ∀ W : World, Alive W b A cap T I → Calls Try.prog 17 #[.pointer (some ⟨b, 0, none⟩), .int .i64 (m : Int)] W _ := fun W hW => number_any b A cap T (some I) m (m : Int) W hW hT rfl (by omega)
    generalize numS T (some I) m = r at *
    obtain ⟨v, st⟩ := r
    simp only at hlt hN
    obtain ⟨P, hP⟩ : ∃ P, (2 + q) * 2 ^ m = P := ⟨_, rfl⟩
    have hPl : P ≤ 3 * 2 ^ 13 := by rw [← hP]; exact Nat.mul_le_mul (by omega) hp
    rw [hP] at ho
    have hr2 : IntKind.i64.wrap (2 + (q : Int)) = 2 + (q : Int) := IntWalk.i64_in _ (by omega)
    have hP' : (2 + (q : Int)) * 2 ^ m = (P : Int) := by rw [← hP]; simp
    have hr3 : IntKind.i64.wrap ((2 + (q : Int)) * 2 ^ m) = (P : Int) := by rw [hP']; exact IntWalk.i64_in _ (by omega)
    have hr4 : IntKind.i64.wrap (1 + (P : Int)) = 1 + (P : Int) := IntWalk.i64_in _ (by omega)
    have hr5 : IntKind.i64.wrap (1 + (P : Int) + (v : Int)) = 1 + (P : Int) + (v : Int) := IntWalk.i64_in _ (by omega)
    have HO := Lib.hid ho
    have HN := Lib.hid hN
    clear ho hN hm hq hP hP'
    go_enter Try.func38, Try.ntmps38
    go_wp2_with fail
    go_region_with (go_at_call 17; refine (HN.out _ (by exact h.same rfl)).mono ?_; rintro e w1 ⟨rfl, hst, hO1⟩)
    go_wp2
    go_ret
    cases st with
    | some I' => exact measured_some HO.out (by omega) hst (hO1.same rfl rfl rfl rfl)
    | none => exact measured_none HO.out hst.halt (hO1.same rfl rfl rfl rfl)
end Go.Proofs.Ythceefhnmjjddaa
