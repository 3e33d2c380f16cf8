/-
  The reference's Items, by a contract.
-/
import Derived.Test.YtdmgbcpdkmljmaaValue
import Derived.Test.YtdmgbcpdkmljmaaItems
import Derived.Test.YtdmgbcpdkmljmaaCanon
namespace Go.Proofs.Ytdmgbcpdkmljmaa
open Go.RowKit

theorem info48 : (Try.prog.info? 48).map (fun i => (i.zero, i.size, i.bytes)) = some (some (.agg #[.int .u8 0, .bool false]), 2, 2) := by kernel_rfl

def itemV (t : UInt8 × Bool) : List Value := [.int .u8 (t.1.toNat : Nat), .bool t.2]
def itemsV (l : List (UInt8 × Bool)) : List Value := l.flatMap itemV
theorem itemsV_snoc (l : List (UInt8 × Bool)) (t : UInt8 × Bool) : itemsV (l ++ [t]) = itemsV l ++ itemV t := by simp [itemsV]

def GaveItems (o : Option (List (UInt8 × Bool))) (w : World) (e : Ending) (w' : World) : Prop :=
  match o with
  | some l => ∃ v', e = .returned (.tuple #[v', .bool true]) ∧ w'.ownsRow w.heap.size 48 2 v' l.length (itemsV l) ∧ Below w.heap.size w w'
  | none => e = .returned (.tuple #[.slice none 0 0, .bool false]) ∧ Below w.heap.size w w'
theorem gaveItems_some {o : Option (List (UInt8 × Bool))} {l : List (UInt8 × Bool)} {w w' : World} {v' : Value} (ho : o = some l) (hown : w'.ownsRow w.heap.size 48 2 v' l.length (itemsV l)) (hb : Below w.heap.size w w') :
    GaveItems o w (.returned (.tuple #[v', .bool true])) w' := by
  subst ho; exact ⟨v', rfl, hown, hb⟩
theorem gaveItems_none {o : Option (List (UInt8 × Bool))} {w w' : World} (ho : o = none) (hb : Below w.heap.size w w') :
    GaveItems o w (.returned (.tuple #[.slice none 0 0, .bool false])) w' := by
  subst ho; exact ⟨rfl, hb⟩

theorem drop_get (s : ByteArray) (k : Nat) (x : UInt8) (r : List UInt8) (h : s.data.toList.drop k = x :: r) : ∃ hk : k < s.size, s[k] = x ∧ s.data.toList.drop (k + 1) = r ∧ s.size = k + 1 + r.length := by
  have hs : s.data.size = s.size := rfl
  have hlen := congrArg List.length h
  simp only [List.length_drop, Array.length_toList, List.length_cons] at hlen
  have hk : k < s.size := by omega
  have hd := List.drop_eq_getElem_cons (l := s.data.toList) (i := k) (by simp; omega)
  rw [h] at hd
  injection hd with h1 h2
  exact ⟨hk, h1.symm, h2.symm, by omega⟩
theorem extract_two (s : ByteArray) (k : Nat) (x y z : UInt8) (r : List UInt8) (h : s.data.toList.drop k = x :: y :: z :: r) : (s.extract (k + 1) (k + 3)).data.toList = [y, z] := by
  obtain ⟨hk, _, h1, _⟩ := drop_get s k x _ h
  rw [ByteArray.data_extract, Array.toList_extract]
  simp only [List.extract_eq_take_drop, h1]
  simp

set_option maxHeartbeats 1000000 in
set_option maxRecDepth 100000 in
theorem items_any (s : ByteArray) (w : World) (hs : s.size ≤ 65536) : Calls Try.prog 21 #[.string s] w (GaveItems (itemsS s.data.toList) w) := by
  obtain ⟨i0, hi, hz0, hz1, hz2⟩ := info_parts info48
  have hown0 : (w.alloc (.cells #[] 48)).ownsRow w.heap.size 48 2 (.slice (some ⟨w.heap.size, 0, none⟩) 0 0) 0 [] := ownsRow_empty (heap_alloc_new w _) (Nat.le_refl _)
  go_enter Try.func21, Try.ntmps21
  go_wp2
  go_loopw [4, 5] (fun v i wr => ∃ (k : Nat) (rest : List UInt8) (done : List (UInt8 × Bool)), i = .int .i64 (k : Nat) ∧ k ≤ s.size ∧ s.data.toList.drop k = rest ∧ done.length ≤ k ∧
      itemsS s.data.toList = (itemsS rest).map (done ++ ·) ∧ wr.ownsRow w.heap.size 48 2 v done.length (itemsV done) ∧ Below w.heap.size w wr) (fun _ i _ => s.size - (intOf i).toNat)
  case atStart => exact ⟨0, s.data.toList, [], rfl, Nat.zero_le _, rfl, Nat.le_refl _, by simp, hown0, (Below.refl _ w).alloc (Nat.le_refl _) _⟩
  case round =>
    obtain ⟨k, rest, done, rfl, hk, hrest, hdl, hit, howr, hbel⟩ := hrel
    have HIT := Lib.hid hit
    have HR := Lib.hid hrest
    clear hit hrest hown0
    rcases rest with _ | ⟨x, r⟩
    · have hge : ¬ k < s.size := by
        have h1 := congrArg List.length HR.out
        have h2 : s.data.size = s.size := rfl
        simp at h1; omega
      go_wp2
      go_ret2
      exact gaveItems_some (by rw [HIT.out]; simp [itemsS]) howr hbel
    · obtain ⟨hlt, hsx, hdr, hsz⟩ := drop_get s k x r HR.out
      have HSX := Lib.hid hsx
      have HDR := Lib.hid hdr
      have HSZ := Lib.hid hsz
      clear hsx hdr hsz
      by_cases hx : x = 37
      · have heq : (((s[k].toNat : Int)) == 37) = true := by
          have := byte_eq_iff s[k] 37
          rw [show (((37 : UInt8).toNat : Int)) = 37 from rfl] at this
          rw [this, HSX.out]; simpa using hx
        by_cases hr2 : r.length < 2
        · have hsh : (s.size : Int) - (k : Int) < 3 := by have := HSZ.out; omega
          have hbad : itemsS (x :: r) = none := by
            subst hx
            match r, hr2 with
            | [], _ => simp [itemsS]
            | [y], _ => simp [itemsS]
          go_wp2
          go_ret2
          exact gaveItems_none (items_bad HIT.out hbad) hbel
        · obtain ⟨y, z, t, rfl⟩ : ∃ y z t, r = y :: z :: t := by
            match r, hr2 with
            | y :: z :: t, _ => exact ⟨y, z, t, rfl⟩
            | [y], h => simp at h
            | [], h => simp at h
          have hlong : (3 : Int) ≤ (s.size : Int) - (k : Int) := by have := HSZ.out; simp at this; omega
          have hb3 : k + 3 ≤ s.size := by omega
          have hb3' : (k : Int) + 3 ≤ (s.size : Int) := by omega
          by_cases hd : digN y < 0 ∨ digN z < 0
          · have hv : ∀ W : World, Calls Try.prog 26 #[.string (s.extract (k + 1) (k + 3))] W fun e w' => e = .returned (.int .i64 (-1)) ∧ ∃ q, w' = W.drewN q := by
              intro W
              have h1 := value_any (s.extract (k + 1) (k + 3)) W (by have := ByteArray.size_extract (a := s) (b := k + 1) (e := k + 3); omega)
              rw [extract_two s k x y z t HR.out, valI_two, if_pos hd] at h1
              exact h1
            have HV := Lib.hid hv
            have hbad : itemsS (x :: y :: z :: t) = none := by subst hx; rw [itemsS, if_pos rfl, if_pos hd]
            clear hv hd
            go_wp2_with (go_at_call 26; refine (HV.out _).mono ?_; rintro e w1 ⟨rfl, q, rfl⟩)
            go_ret2
            exact gaveItems_none (items_bad HIT.out hbad) (below_drewN hbel q)
          · have hyl := digN_le y
            have hzl := digN_le z
            have hgood := itemsS_coded y z t hd
            have hv : ∀ W : World, Calls Try.prog 26 #[.string (s.extract (k + 1) (k + 3))] W fun e w' => e = .returned (.int .i64 ((16 * (digN y).toNat + (digN z).toNat : Nat) : Int)) ∧ ∃ q, w' = W.drewN q := by
              intro W
              have h1 := value_any (s.extract (k + 1) (k + 3)) W (by have := ByteArray.size_extract (a := s) (b := k + 1) (e := k + 3); omega)
              rw [extract_two s k x y z t HR.out, valI_two, if_neg hd] at h1
              exact h1
            have hN : 16 * (digN y).toNat + (digN z).toNat < 256 := by omega
            subst hx
            have hit2 := items_step HIT.out hgood
            generalize 16 * (digN y).toNat + (digN z).toNat = N at hv hN hit2
            have HV := Lib.hid hv
            have HIT2 := Lib.hid hit2
            clear hv hd hgood hit2 hyl hzl
            have hN' : (0 : Int) ≤ (N : Int) := by omega
            have hw8 : IntKind.u8.wrap (N : Int) = (N : Int) := IntWalk.u8_in _ (by omega)
            go_wp2_with (first
              | (go_at_call 26; refine (HV.out _).mono ?_; rintro e w1 ⟨rfl, q, rfl⟩)
              | (at_builtin; refine wpList_append_own _ rfl _ _ 44 rfl w.heap.size 48 i0 (.agg #[.int .u8 0, .bool false]) 2 2 Try.underlying44 hi hz0 hz1 hz2 rfl (by decide) _ _ _ rfl (by exact howr.alloc _) ⟨wr.heap.size, 0, none⟩ 1 1 [.int .u8 (N : Nat), .bool true] rfl rfl (World.news_of_block (cs := #[.int .u8 (N : Nat), .bool true]) (t := 48) (fr := (0, 0)) (heap_alloc_new wr _)) (by simp [Value.oneCell']) (by unfold maxLen; omega) (by omega) (by have := hbel.size; simp; omega) ?_; intro v' w2 hown' hgrow _))
            have hbel2 : Below w.heap.size w w2 := Below.grown (by first | exact below_drewN (hbel.alloc hbel.size _) _ | exact (below_drewN hbel _).alloc hbel.size _) hgrow (by have := hbel.size; simp; omega) (fun g hg => (howr.lt g hg).1)
            have hd3 : s.data.toList.drop (k + 3) = t := by have := congrArg (List.drop 3) HR.out; simpa [List.drop_drop] using this
            have hxe : itemV (N.toUInt8, true) = [.int .u8 (N : Nat), .bool true] := by
              unfold itemV
              have : N.toUInt8.toNat = N := by simp; omega
              rw [this]
            refine ⟨⟨k + 3, t, done ++ [(N.toUInt8, true)], by go_num, hb3, hd3, by simp; omega, HIT2.out, ?_, hbel2⟩, by simp [intOf]; omega⟩
            rw [itemsV_snoc, List.length_append, hxe]
            exact hown'
      · have hne : (((s[k].toNat : Int)) == 37) = false := by
          have := byte_eq_iff s[k] 37
          rw [show (((37 : UInt8).toNat : Int)) = 37 from rfl] at this
          rw [this, HSX.out]; simpa using hx
        have hit2 := items_step HIT.out (itemsS_plain x r hx)
        have HIT2 := Lib.hid hit2
        clear hit2
        go_wp2_with (at_builtin; refine wpList_append_own _ rfl _ _ 44 rfl w.heap.size 48 i0 (.agg #[.int .u8 0, .bool false]) 2 2 Try.underlying44 hi hz0 hz1 hz2 rfl (by decide) _ _ _ rfl (howr.alloc _) ⟨wr.heap.size, 0, none⟩ 1 1 [.int .u8 (s[k].toNat : Nat), .bool false] rfl rfl (World.news_of_block (cs := #[.int .u8 (s[k].toNat : Nat), .bool false]) (t := 48) (fr := (0, 0)) (heap_alloc_new wr _)) (by simp [Value.oneCell']) (by unfold maxLen; omega) (by omega) (by have := hbel.size; simp; omega) ?_; intro v' w2 hown' hgrow _)
        have hbel2 := (hbel.alloc hbel.size _).grown hgrow (by have := hbel.size; simp; omega) (fun g hg => (howr.lt g hg).1)
        refine ⟨⟨k + 1, r, done ++ [(x, false)], by go_num, by omega, HDR.out, by simp; omega, HIT2.out, ?_, hbel2⟩, by simp [intOf]; omega⟩
        rw [itemsV_snoc, List.length_append]
        have hxe : itemV (x, false) = [.int .u8 (s[k].toNat : Nat), .bool false] := by rw [← HSX.out]; rfl
        rw [hxe]
        exact hown'

end Go.Proofs.Ytdmgbcpdkmljmaa
