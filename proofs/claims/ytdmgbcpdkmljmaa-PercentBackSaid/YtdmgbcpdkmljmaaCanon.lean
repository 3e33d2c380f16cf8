/-
  percent.Canon, by a contract.
-/
import Derived.Test.YtdmgbcpdkmljmaaItems
namespace Go.Proofs.Ytdmgbcpdkmljmaa
open Go.RowKit

/-- What one item comes to in a place. -/
def canB (p : Int) (t : UInt8 × Bool) : List UInt8 := if t.2 then (if freeI (t.1.toNat : Int) then [t.1] else 37 :: hexL t.1.toNat) else encB p t.1
def canL (p : Int) (l : List (UInt8 × Bool)) : List UInt8 := l.flatMap (canB p)
theorem canB_length (p : Int) (t : UInt8 × Bool) : (canB p t).length ≤ 3 := by
  unfold canB
  split
  · split <;> simp [hexL]
  · exact encB_length p t.1
theorem canL_length (p : Int) (l : List (UInt8 × Bool)) : (canL p l).length ≤ 3 * l.length := by
  induction l with
  | nil => simp [canL]
  | cons b l ih =>
    have := canB_length p b
    simp only [canL, List.flatMap_cons, List.length_append, List.length_cons] at *
    omega
theorem canL_snoc (p : Int) (l : List (UInt8 × Bool)) (t : UInt8 × Bool) : canL p (l ++ [t]) = canL p l ++ canB p t := by simp [canL]

/-- A result and an error number: the bytes, new; or nothing and ErrForm. -/
def Gave (o : Option (List UInt8)) (w : World) (e : Ending) (w' : World) : Prop :=
  match o with
  | some out => ∃ v', e = .returned (.tuple #[v', .int .i64 0]) ∧ w'.ownsRow w.heap.size 5 1 v' out.length (bytesV out) ∧ Below w.heap.size w w'
  | none => e = .returned (.tuple #[.slice none 0 0, .int .i64 2]) ∧ Below w.heap.size w w'

/-- How many elements a slice has. -/
def lenOf : Value → Nat | .slice _ n _ => n | _ => 0

theorem encode_at (A : Option Addr) (l : List UInt8) (n c : Nat) (p : Int) (w : World) (h : BytesAt w A l) (hn : n = l.length) (hl : l.length ≤ 65536) :
    Calls Try.prog 8 #[.slice A n c, .int .i64 p] w (Made (encL p l) w) := by
  subst hn; exact encode_any A l c p w h hl

theorem gave_some {o : Option (List UInt8)} {out : List UInt8} {w w' : World} {v' : Value} (ho : o = some out) (hown : w'.ownsRow w.heap.size 5 1 v' out.length (bytesV out)) (hb : Below w.heap.size w w') :
    Gave o w (.returned (.tuple #[v', .int .i64 0])) w' := by
  subst ho; exact ⟨v', rfl, hown, hb⟩
theorem gave_none {o : Option (List UInt8)} {w w' : World} (ho : o = none) (hb : Below w.heap.size w w') :
    Gave o w (.returned (.tuple #[.slice none 0 0, .int .i64 2])) w' := by
  subst ho; exact ⟨rfl, hb⟩
theorem items_end {l : List UInt8} {done : List (UInt8 × Bool)} (p : Int) (h : itemsS l = (itemsS []).map (done ++ ·)) : (itemsS l).map (canL p) = some (canL p done) := by
  rw [h]; simp [itemsS]
theorem items_bad {l : List UInt8} {x : UInt8} {r : List UInt8} {done : List (UInt8 × Bool)} (h : itemsS l = (itemsS (x :: r)).map (done ++ ·)) (hx : itemsS (x :: r) = none) : itemsS l = none := by
  rw [h, hx]; rfl
theorem items_step {l : List UInt8} {x : UInt8} {r s : List UInt8} {done : List (UInt8 × Bool)} {t : UInt8 × Bool} (h : itemsS l = (itemsS (x :: r)).map (done ++ ·)) (hx : itemsS (x :: r) = (itemsS s).map (t :: ·)) :
    itemsS l = (itemsS s).map ((done ++ [t]) ++ ·) := by
  rw [h, hx, Option.map_map]
  congr 1
  funext y
  simp

set_option maxHeartbeats 1000000 in
set_option maxRecDepth 100000 in
theorem canon_any (A : Option Addr) (l : List UInt8) (n c : Nat) (p : Int) (w : World) (h : BytesAt w A l) (hn : n = l.length) (hc : n ≤ c) (hl : l.length ≤ 65536) :
    Calls Try.prog 10 #[.slice A n c, .int .i64 p] w (Gave ((itemsS l).map (canL p)) w) := by
  obtain ⟨i0, hi, hz0, hz1, hz2⟩ := info_parts info5
  have hown0 : w.ownsRow w.heap.size 5 1 (.slice none 0 0) 0 [] := World.ownsRow_nil _ _ _ _
  go_enter Try.func10, Try.ntmps10
  go_wp2
  go_loopw [0, 6] (fun t v wr => ∃ (A' : Option Addr) (m c' : Nat) (rest : List UInt8) (done : List (UInt8 × Bool)), t = .slice A' m c' ∧ m = rest.length ∧ m ≤ c' ∧ BytesAt w A' rest ∧
      done.length + rest.length ≤ l.length ∧ itemsS l = (itemsS rest).map (done ++ ·) ∧ wr.ownsRow w.heap.size 5 1 v (canL p done).length (bytesV (canL p done)) ∧ Below w.heap.size w wr) (fun t _ _ => lenOf t)
  case atStart => exact ⟨A, n, c, l, [], rfl, hn, hc, h, by simp, by simp, hown0, Below.refl _ _⟩
  case round =>
    obtain ⟨A', m, c', rest, done, rfl, hm, hmc, hB, hlen, hit, howr, hbel⟩ := hrel
    have HM := Lib.hid hm
    have HIT := Lib.hid hit
    clear hm hit h hn hc hown0
    have hcl := canL_length p done
    rcases rest with _ | ⟨x, r⟩
    · have hm0 : m = 0 := HM.out
      clear HM
      subst hm0
      go_wp2
      go_ret2
      exact gave_some (items_end p HIT.out) howr hbel
    · have hpos : (0 : Int) < (m : Int) := by have := HM.out; simp at this; omega
      obtain ⟨b, o, rfl⟩ : ∃ b o, A' = some ⟨b, o, none⟩ := by
        rcases hB with h0 | ⟨b, o, e, _⟩
        · cases h0
        · exact ⟨b, o, e⟩
      go_wp2_with fail
      refine (read_any b o x r m c' _ (by exact hB.below hbel) (by have := HM.out; simpa using this)).mono ?_
      rintro e w1 ⟨rfl, hb1⟩
      have how1 := own_below howr hb1
      have hbel1 := hbel.trans (hb1.mono hbel.size)
      clear howr hbel hb1
      rcases way x r with ⟨hr, hx⟩ | ⟨hr, hx37, hx⟩ | ⟨v, s, hr, hs1, hs2, hx⟩
      · rw [hr]
        go_wp2
        go_ret2
        exact gave_none (by rw [items_bad HIT.out hx]; rfl) hbel1
      · rw [hr]
        have hcut := fun W => run_cut W b o m c' 1 1 rfl (by omega)
        go_wp2_with fail
        refine (encode_at _ [x] _ _ p _ (by exact (hB.below hbel1).cut_front 1) rfl (by simp)).mono ?_
        rintro e w2 ⟨v2, rfl, hown2, hb2⟩
        obtain ⟨C, c2, hv2, hC, _⟩ := BytesAt.of_own hown2
        rw [hv2]
        have how2 := own_below how1 hb2
        have hbel2 := hbel1.trans (hb2.mono hbel1.size)
        have hel := encL_length p [x]
        simp only [List.length_cons, List.length_nil] at hel hlen
        clear hown2 hb2 hv2 how1 hbel1
        go_wp2_with (at_builtin; refine wpList_append_src _ rfl (.tmp 17) (.tmp 21) 22 rfl w.heap.size 5 i0 (.int .u8 0) 1 1 Try.underlying22 hi hz0 hz1 hz2 rfl (by decide) _ _ _ rfl how2 C (encL p [x]).length c2 (bytesV (encL p [x])) rfl (by simp [bytesV_length]) hC.src (bytesV_one _) (by unfold maxLen; omega) (by omega) (by exact hbel2.size) ?_; intro v3 w3 hown3 hgrow3)
        have hbel3 := hbel2.grown hgrow3 hbel2.size (fun g hg => (how2.lt g hg).1)
        have hm1 : m = r.length + 1 := by have := HM.out; simpa using this
        have hcn : canL p (done ++ [(x, false)]) = canL p done ++ encL p [x] := by rw [canL_snoc]; simp [canB, encL]
        refine ⟨⟨_, m - 1, c' - 1, r, done ++ [(x, false)], rfl, by omega, by omega, hB.cut c' 1 (by simp; omega), by simp; omega, items_step HIT.out hx, ?_, hbel3⟩, by simp [lenOf]; omega⟩
        rw [hcn, List.length_append, bytesV_append]
        exact hown3
      · rw [hr]
        have hm3 : m = s.length + 3 := by have := HM.out; simp at this; omega
        have hcut := fun W => run_cut W b o m c' 3 3 rfl (by omega)
        have hBs := hB.cut c' 3 (by have := HM.out; omega)
        rw [hs2] at hBs
        simp only [List.length_cons, hs1] at hlen
        have hvb : v.toNat < 256 := v.toNat_lt
        have HM3 := Lib.hid hm3
        clear hm3
        by_cases hf : freeI (v.toNat : Int) = true
        · go_wp2_with (first
            | (go_at_call 15; refine (free_int (v.toNat : Int) _).mono ?_; rintro e w' ⟨rfl, rfl⟩)
            | (at_builtin; refine wpList_append_own _ rfl _ _ 22 rfl w.heap.size 5 i0 (.int .u8 0) 1 1 Try.underlying22 hi hz0 hz1 hz2 rfl (by decide) _ _ _ rfl (how1.alloc _) ⟨w1.heap.size, 0, none⟩ 1 1 [.int .u8 (v.toNat : Nat)] rfl rfl ?c1 ?c2 ?c3 ?c4 ?c5 ?_))
          case c1 =>
            intro j u hj
            match j, hj with
            | 0, hj => simp at hj; subst hj; simp [Addr.add]
          case c2 => intro u hu; simp at hu; subst hu; rfl
          case c3 => unfold maxLen; omega
          case c4 => omega
          case c5 => have := hbel1.size; simp; omega
          intro v' w2 hown' hgrow _
          have hbel3 := (hbel1.alloc hbel1.size _).grown hgrow (by have := hbel1.size; simp; omega) (fun g hg => (how1.lt g hg).1)
          have hcn : canL p (done ++ [(v, true)]) = canL p done ++ [v] := by rw [canL_snoc]; simp [canB, hf]
          go_wp2
          refine ⟨⟨_, m - 3, c' - 3, s, done ++ [(v, true)], rfl, by have := HM3.out; omega, by omega, hBs, by simp; omega, items_step HIT.out hx, ?_, hbel3⟩, by simp [lenOf]; have := HM3.out; omega⟩
          rw [hcn, List.length_append, bytesV_append]
          exact hown'
        · go_wp2_with (first
            | (go_at_call 15; refine (free_int (v.toNat : Int) _).mono ?_; rintro e w' ⟨rfl, rfl⟩)
            | (go_at_call 17; refine (write_any w.heap.size _ (canL p done) v.toNat _ hvb how1 hbel1.size (by omega)).mono ?_; rintro e w2 ⟨v', rfl, hown', hgrow⟩))
          have hbel3 := hbel1.grown hgrow hbel1.size (fun g hg => (how1.lt g hg).1)
          have hcn : canL p (done ++ [(v, true)]) = canL p done ++ 37 :: hexL v.toNat := by rw [canL_snoc]; simp [canB, hf]
          refine ⟨⟨_, m - 3, c' - 3, s, done ++ [(v, true)], rfl, by have := HM3.out; omega, by omega, hBs, by simp; omega, items_step HIT.out hx, ?_, hbel3⟩, by simp [lenOf]; have := HM3.out; omega⟩
          rw [hcn]
          exact hown'

end Go.Proofs.Ytdmgbcpdkmljmaa
