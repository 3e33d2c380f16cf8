/-
  'cordonlaw39.InflateLengths' returns true whatever the lengths; what was there stays as it was.
-/
import Derived.Test.YthceefhnmjjddaaLenSpec
import Derived.Test.YthceefhnmjjddaaLives
import Derived.Test.YthceefhnmjjddaaRefFixed
import Derived.Test.YthceefhnmjjddaaArg
namespace Go.Proofs.Ythceefhnmjjddaa
open Go.RowKit

def intsV (zs : List Int) : List Value := zs.map fun z => .int .i64 z
theorem intsV_length (zs : List Int) : (intsV zs).length = zs.length := by simp [intsV]
theorem intsV_one (zs : List Int) : ∀ u ∈ intsV zs, u.oneCell' = true := by
  intro u hu
  obtain ⟨z, _, rfl⟩ := List.mem_map.1 hu
  rfl
theorem intsV_get {zs : List Int} {j : Nat} {u : Value} (h : (intsV zs)[j]? = some u) : j < zs.length ∧ u = .int .i64 (zs.getD j 0) := by
  have hj : j < zs.length := by
    have := (List.getElem?_eq_some_iff.1 h).1
    rwa [intsV_length] at this
  refine ⟨hj, ?_⟩
  simp [intsV, hj] at h
  rw [← h]
  simp [hj]
theorem IntsL.src {w : World} {A : Option Addr} {zs : List Int} (h : IntsL w A zs) : Src w A (intsV zs) := by
  rcases h with rfl | ⟨b, o, rfl, _, hc⟩
  · exact .inl rfl
  · refine .inr ⟨_, rfl, fun j u hu => ?_⟩
    obtain ⟨hj, rfl⟩ := intsV_get hu
    rw [addr_add]
    exact hc j hj
theorem IntsL.of_own {w : World} {base : Nat} {v : Value} {zs : List Int} (h : w.ownsRow base 3 1 v zs.length (intsV zs)) : ∃ A c, v = .slice A zs.length c ∧ IntsL w A zs := by
  rcases h.2 with ⟨rfl, hn⟩ | ⟨g, cap, cur, rfl, hb, hg, hnc, hcm, hcs, htk⟩
  · have : zs = [] := List.eq_nil_of_length_eq_zero hn
    subst this
    exact ⟨none, 0, rfl, .inl rfl⟩
  · refine ⟨_, cap, rfl, .inr ⟨g, 0, rfl, (Array.getElem?_eq_some_iff.1 hg).1, fun i hi => ?_⟩⟩
    have hv : (intsV zs)[i]? = some (.int .i64 (zs.getD i 0)) := by simp [intsV, hi]
    have hc := h.cells (g := g) rfl i _ hv
    rw [addr_add] at hc
    exact hc
theorem le8_ {n : Nat} (h : n ≤ 3000000) : n ≤ maxLen ∧ n * 8 ≤ 140737488355328 := by unfold maxLen; omega
theorem ints_own {w : World} {base : Nat} {v : Value} {zs : List Int} {xs : List Value} (h : w.ownsRow base 3 1 v (0 + zs.length) (xs ++ intsV zs)) (hx : xs = []) : w.ownsRow base 3 1 v zs.length (intsV zs) := by
  subst hx
  simpa using h
theorem bad_true {z : Int} (h : badZ z = true) : z < 0 ∨ 15 < z := by simpa [badZ] using h
theorem bad_false {z : Int} (h : badZ z = false) : 0 ≤ z ∧ z ≤ 15 := by simp [badZ] at h; omega

set_option maxHeartbeats 4000000 in
set_option maxRecDepth 100000 in
theorem lenlaw_far (A : Option Addr) (zs : List Int) (c : Nat) (w : World) (h : IntsL w A zs) (hm : zs.length ≤ 300) (hbad : 288 < zs.length ∨ zs.any badZ = true) :
    Calls Try.prog 6 #[.slice A zs.length c] w fun e w' => e = .returned (.bool true) ∧ Below w.heap.size w w' := by
  obtain ⟨i0, hi, hy0, hy1, hy2⟩ := info_parts info3
  have hmI : (zs.length : Int) ≤ 300 := by omega
  have hd0 : decide ((300 : Int) < (zs.length : Int)) = false := by simp; omega
  have HBAD := Lib.hid hbad
  clear hbad
  go_enter Try.func6, Try.ntmps6
  go_wp2_with fail
  refine (lives_any _).mono ?_
  rintro e w1 ⟨rfl, hb1⟩
  have h1 := h.below hb1
  have hb1a := (Below.refl _ w1).alloc (Nat.le_refl _) (.cells #[] 3)
  have hsrc := (h1.below hb1a).src
  have hone := Lib.hid (intsV_one zs)
  have hlen := Lib.hid (show (intsV zs).length = zs.length * 1 by rw [intsV_length]; omega)
  have h63 := Lib.hid (le8_ (show 0 + zs.length ≤ 3000000 by omega))
  have hownE : (w1.alloc (.cells #[] 3)).ownsRow w1.heap.size 3 1 (.slice (some ⟨w1.heap.size, 0, none⟩) 0 0) 0 [] := ownsRow_empty (heap_alloc_new w1 _) (Nat.le_refl _)
  clear h
  go_wp2_with (at_builtin; go_loud (refine wpList_append_src _ rfl (.tmp 24) (.tmp 25) 28 rfl w1.heap.size 3 i0 (.int .i64 0) 1 8 Try.underlying28 hi hy0 hy1 hy2 rfl (by decide) (.slice (some ⟨w1.heap.size, 0, none⟩) 0 0) 0 [] rfl hownE A zs.length c (intsV zs) rfl hlen.out hsrc hone.out h63.out.1 h63.out.2 (by simp) ?_; intro v3 w3 hown3 hgrow3))
  have hown3' := ints_own hown3 rfl
  have hb13 : Below w1.heap.size w1 w3 := hb1a.grown hgrow3 (by simp) (fun k hk => (hownE.lt k hk).1)
  obtain ⟨A3, c3, hv3, hI3⟩ := IntsL.of_own hown3'
  have h3 := h1.below hb13
  have hb3 := hb1.trans (hb13.mono hb1.size)
  subst hv3
  clear hown3 hgrow3 hownE hsrc hb13 h1 hb1a hown3'
  refine (len_far A3 zs.length c3 zs _ hI3 rfl (by omega) HBAD.out).mono ?_
  rintro e w4 ⟨rfl, hb4⟩
  have h4 := h3.below hb4
  have hI4 := hI3.below hb4
  have hb4' := hb3.trans (hb4.mono hb3.size)
  clear h3 hI3 hb4
  go_wp2_with fail
  obtain ⟨wo, rfl⟩ : ∃ wo : World, wo = w4 := ⟨_, rfl⟩
  go_loopw [34] (fun i wr => ∃ j : Nat, i = .int .i64 (j : Nat) ∧ j ≤ zs.length ∧ (∀ q, q < j → badZ (zs.getD q 0) = false) ∧ wr = wo) (fun i _ => zs.length - (intOf i).toNat)
  case atStart => exact ⟨0, rfl, Nat.zero_le _, fun q hq => by omega, rfl⟩
  case round =>
    obtain ⟨j, rfl, hj, hq, rfl⟩ := hrel
    have HQ := Lib.hid hq
    clear hq
    by_cases hlt : j < zs.length
    · obtain ⟨b, o, rfl, hblt, hc⟩ := h4.resolve_left (fun e => by subst e; simp at hlt)
      obtain ⟨b3, o3, rfl, hblt3, hc3⟩ := hI4.resolve_left (fun e => by subst e; simp at hlt)
      have hcell := hc j hlt
      have hcell3 := hc3 j hlt
      have HC := Lib.hid hc
      have HC3 := Lib.hid hc3
      obtain ⟨z, hz⟩ : ∃ z, zs.getD j 0 = z := ⟨_, rfl⟩
      rw [hz] at hcell hcell3
      clear hc hc3
      by_cases hbz : badZ z = true
      · rcases Int.lt_or_le z 0 with hz0 | hz0
        · have HZ := Lib.hid hz
          clear hz hbz
          go_wp2
          go_ret
          exact ⟨rfl, hb4'⟩
        · have hz1 : 15 < z := by rcases bad_true hbz with h | h <;> omega
          have HZ := Lib.hid hz
          clear hz hbz
          go_wp2
          go_ret
          exact ⟨rfl, hb4'⟩
      · have hbf : badZ z = false := by simpa using hbz
        obtain ⟨hz0, hz15⟩ := bad_false hbf
        have HZ := Lib.hid hz
        have HBF := Lib.hid hbf
        clear hz hbz hbf
        go_wp2
        go_roundw
        case rel => exact ⟨j + 1, by go_num, by omega, fun q hq => by
          by_cases e : q = j
          · subst e; rw [HZ.out]; exact HBF.out
          · exact HQ.out q (by omega), by first | rfl | trivial⟩
        case measure => simp [intOf]; omega
    · obtain rfl : j = zs.length := by omega
      have hany := bad_none HQ.out
      have h288 : 288 < zs.length := HBAD.out.resolve_right (by rw [hany]; decide)
      have h288I : (288 : Int) < (zs.length : Int) := by omega
      clear hany
      go_wp2
      go_ret
      exact ⟨rfl, hb4'⟩

theorem nums_own {w : World} {base : Nat} {v : Value} {l : List Nat} {xs : List Value} (h : w.ownsRow base 3 1 v (0 + l.length) (xs ++ numsV l)) (hx : xs = []) : w.ownsRow base 3 1 v l.length (numsV l) := by
  subst hx
  simpa using h
/-- What is known of a word. -/
structure WordIs (X : List UInt8) (n : Nat) : Prop where
  len : X.length ≤ 15
  get : ∀ p, p < X.length → (X.getD p 0).toNat = 48 ∨ (X.getD p 0).toNat = 49
  num : numOf X = n
  lt : ∀ p, p ≤ X.length → numOf (X.take p) < 32768
  nlt : n < 32768
theorem word_is {L : List Nat} (hr : right L = true) (h15 : ∀ x ∈ L, x ≤ 15) {i : Nat} (hi : i < L.length) : WordIs (wordL L i) (outL L i) := by
  have hl : L.getD i 0 ≤ 15 := h15 _ (by rw [List.getD_eq_getElem?_getD, List.getElem?_eq_getElem hi]; exact List.getElem_mem _)
  refine ⟨by rw [wordL_length]; exact hl, fun p hp => ?_, numOf_word hr hi hl, fun p hp => ?_, outL_lt hr i hi hl⟩
  · rw [wordL_length] at hp
    exact binL_get _ _ _ hp
  · rw [wordL_length] at hp
    unfold wordL
    rw [binL_take p _ _ hp, numOf_bin]
    exact Nat.lt_of_lt_of_le (Nat.mod_lt _ (Nat.two_pow_pos _)) (pow_le15 (by omega))
theorem size_mk (X : List UInt8) : (ByteArray.mk X.toArray).size = X.length := by simp [ByteArray.size]
theorem next_word (X : List UInt8) (p : Nat) (hp : p < X.length) (hb : (X.getD p 0).toNat = 48 ∨ (X.getD p 0).toNat = 49) (w : World) (ty : TypeId) :
    (Instr.next (.pointer (some ⟨w.heap.size, 0, none⟩)) true ty).run Try.prog (w.iter ⟨X.toArray⟩ p) = .ok (.tuple #[.bool true, .int .i64 p, .int .i32 ((X.getD p 0).toNat : Nat)]) (w.iter ⟨X.toArray⟩ (p + 1)) := by
  have hs : p < (ByteArray.mk X.toArray).size := by rw [size_mk]; exact hp
  have e : (ByteArray.mk X.toArray)[p]'hs = X.getD p 0 := by
    show X.toArray[p]'_ = _
    simp [List.getD_eq_getElem?_getD, hp]
  rw [run_next_ascii w _ p ty hs (by rw [e]; omega), e]
theorem next_done (X : List UInt8) (w : World) (ty : TypeId) :
    (Instr.next (.pointer (some ⟨w.heap.size, 0, none⟩)) true ty).run Try.prog (w.iter ⟨X.toArray⟩ X.length) = .ok (.tuple #[.bool false]) (w.iter ⟨X.toArray⟩ X.length) :=
  run_next_end w _ _ ty (by rw [size_mk]; omega)
theorem word_at (X : List UInt8) (p : Nat) (hp : p < X.length) (W : World) :
    (Instr.index 9 (.string ⟨X.toArray⟩) (.int .i64 (p : Nat))).run Try.prog W = .ok (.int .u8 ((X.getD p 0).toNat : Nat)) W := by
  have hs : p < (ByteArray.mk X.toArray).size := by rw [size_mk]; exact hp
  rw [run_index_string W 9 _ .i64 _ Try.underlying9, dif_pos (by omega)]
  have e : (ByteArray.mk X.toArray)[((p : Nat) : Int).toNat]'(by simpa using hs) = X.getD p 0 := by
    show X.toArray[((p : Nat) : Int).toNat]'_ = _
    simp [List.getD_eq_getElem?_getD, hp]
  rw [e]
theorem word_take (Y : List UInt8) (n : Nat) (hn : n ≤ Y.length) (W : World) :
    (Instr.slice 9 (.string ⟨Y.toArray⟩) none (some (.int .i64 (n : Nat))) none).run Try.prog W = .ok (.string ⟨(Y.take n).toArray⟩) W := by
  rw [run_slice_string_h W 9 _ Try.underlying9 .i64 _ (by omega) (by rw [size_mk]; omega)]
  congr 2
  apply ByteArray.ext
  rw [ByteArray.data_extract]
  simp
theorem text_get {w : World} {g i : Nat} {L : List Nat} (h : Blk w g 9 (textsV (wordsL L)).toArray) (hi : i < L.length) : w.cell? ⟨g, i, none⟩ = some (.string ⟨(wordL L i).toArray⟩) := by
  rw [cell_of_row _ _ _ _ _ _ h, List.getElem?_toArray]
  simp [textsV, wordsL, hi]
theorem out_get {w : World} {g i : Nat} {L : List Nat} (h : Blk w g 40 (shorts (rowO L L.length)).toArray) (hi : i < L.length) : w.cell? ⟨g, i, none⟩ = some (.int .u16 (outL L i : Nat)) := by
  rw [cell_of_row _ _ _ _ _ _ h, List.getElem?_toArray]
  simp [shorts, rowO, hi]

set_option maxHeartbeats 4000000 in
set_option maxRecDepth 100000 in
theorem lenlaw_ok (A : Option Addr) (L : List Nat) (c : Nat) (w : World) (h : NumsAt w A L) (hm : L.length ≤ 288) (h15 : ∀ x ∈ L, x ≤ 15) :
    Calls Try.prog 6 #[.slice A L.length c] w fun e w' => e = .returned (.bool true) ∧ Below w.heap.size w w' := by
  obtain ⟨i0, hi, hy0, hy1, hy2⟩ := info_parts info3
  have hmI : (L.length : Int) ≤ 288 := by omega
  have hd0 : decide ((300 : Int) < (L.length : Int)) = false := by simp; omega
  have H15 := Lib.hid h15
  clear h15
  go_enter Try.func6, Try.ntmps6
  go_wp2_with fail
  refine (lives_any _).mono ?_
  rintro e w1 ⟨rfl, hb1⟩
  have h1 := h.below hb1
  have hb1a := (Below.refl _ w1).alloc (Nat.le_refl _) (.cells #[] 3)
  have hsrc := (h1.below hb1a).src
  have hone := Lib.hid (numsV_one L)
  have hlen := Lib.hid (show (numsV L).length = L.length * 1 by rw [numsV_length]; omega)
  have h63 := Lib.hid (le8_ (show 0 + L.length ≤ 3000000 by omega))
  have hownE : (w1.alloc (.cells #[] 3)).ownsRow w1.heap.size 3 1 (.slice (some ⟨w1.heap.size, 0, none⟩) 0 0) 0 [] := ownsRow_empty (heap_alloc_new w1 _) (Nat.le_refl _)
  clear h
  go_wp2_with (at_builtin; go_loud (refine wpList_append_src _ rfl (.tmp 24) (.tmp 25) 28 rfl w1.heap.size 3 i0 (.int .i64 0) 1 8 Try.underlying28 hi hy0 hy1 hy2 rfl (by decide) (.slice (some ⟨w1.heap.size, 0, none⟩) 0 0) 0 [] rfl hownE A L.length c (numsV L) rfl hlen.out hsrc hone.out h63.out.1 h63.out.2 (by simp) ?_; intro v3 w3 hown3 hgrow3))
  have hown3' := nums_own hown3 rfl
  have hb13 : Below w1.heap.size w1 w3 := hb1a.grown hgrow3 (by simp) (fun k hk => (hownE.lt k hk).1)
  obtain ⟨A3, c3, hv3, _, hI3, _⟩ := NumsAt.of_own hown3'
  have h3 := h1.below hb13
  have hb3 := hb1.trans (hb13.mono hb1.size)
  subst hv3
  clear hown3 hgrow3 hownE hsrc hb13 h1 hb1a hown3'
  by_cases hr : right L = true
  · have HR := Lib.hid hr
    refine (len_words A3 c3 L _ hI3 hm H15.out hr).mono ?_
    rintro e w4 ⟨gg, rfl, hgg, hb4⟩
    have h4 := h3.below hb4
    have hI4 := hI3.below hb4
    have hb4' := hb3.trans (hb4.mono hb3.size)
    have hG : Blk w4 gg 40 (shorts (rowO L L.length)).toArray := hgg
    clear h3 hI3 hb4 hgg
    go_wp2_with fail
    obtain ⟨wo, rfl⟩ : ∃ wo : World, wo = w4 := ⟨_, rfl⟩
    go_loopw [34] (fun i wr => ∃ j : Nat, i = .int .i64 (j : Nat) ∧ j ≤ L.length ∧ wr = wo) (fun i _ => L.length - (intOf i).toNat)
    case atStart => exact ⟨0, rfl, Nat.zero_le _, rfl⟩
    case round =>
      obtain ⟨j, rfl, hj, rfl⟩ := hrel
      by_cases hlt : j < L.length
      · obtain ⟨b, o, rfl, hblt, hc⟩ := h4.resolve_left (fun e => by subst e; simp at hlt)
        obtain ⟨b3, o3, rfl, hblt3, hc3⟩ := hI4.resolve_left (fun e => by subst e; simp at hlt)
        have hcell := hc j hlt
        have hcell3 := hc3 j hlt
        have HC := Lib.hid hc
        have HC3 := Lib.hid hc3
        have hz15 : L.getD j 0 ≤ 15 := H15.out _ (by rw [List.getD_eq_getElem?_getD, List.getElem?_eq_getElem hlt]; exact List.getElem_mem _)
        generalize L.getD j 0 = z at hcell hcell3 hz15
        have hzI : (z : Int) ≤ 15 := by omega
        clear hc hc3
        go_wp2
        go_roundw
        case rel => exact ⟨j + 1, by go_num, by omega, by first | rfl | trivial⟩
        case measure => simp [intOf]; omega
      · obtain rfl : j = L.length := by omega
        have hmI2 : ¬ (288 : Int) < (L.length : Int) := by omega
        go_wp2_with fail
        refine (words_n A L.length c L _ h4 rfl (by omega) H15.out).mono ?_
        rintro e w5 ⟨v5, rfl, hb5, hw5⟩
        obtain ⟨gw, rfl, hgw, hrow5⟩ := hw5 hr
        rw [hr]
        have hW : Blk w5 gw 9 (textsV (wordsL L)).toArray := hrow5
        have hG5 : Blk w5 gg 40 (shorts (rowO L L.length)).toArray := hG.below hb5 hG.lt
        have hb5' := hb4'.trans (hb5.mono hb4'.size)
        have hWL := hW.lt
        have hGL := hG5.lt
        have HW5 := Lib.hid hW
        have HG5 := Lib.hid hG5
        have HB5 := Lib.hid hb5'
        clear hw5 hr hrow5 hG hb5 hb4' h4 hI4 hb5' hW hG5 hgw
        go_wp2_with fail
        obtain ⟨wz, rfl⟩ : ∃ wz : World, wz = w5 := ⟨_, rfl⟩
        go_loopw [94] (fun i wr => ∃ j : Nat, i = .int .i64 (j : Nat) ∧ j ≤ L.length ∧ Below wz.heap.size wz wr) (fun i _ => L.length - (intOf i).toNat)
        case atStart => exact ⟨0, rfl, Nat.zero_le _, Below.refl _ _⟩
        case round =>
          obtain ⟨j, rfl, hj, hbz⟩ := hrel
          by_cases hlt : j < L.length
          · have hcx := (hbz.cell (p := ⟨gw, j, none⟩) hWL).trans (text_get HW5.out hlt)
            have hx := word_is HR.out H15.out hlt
            obtain ⟨X, hX⟩ : ∃ X, wordL L j = X := ⟨_, rfl⟩
            rw [hX] at hcx hx
            have HX := Lib.hid hX
            have HXI := Lib.hid hx
            clear hX hx
            go_wp2_with fail
            obtain ⟨wa, rfl⟩ : ∃ wa : World, wa = wr := ⟨_, rfl⟩
            go_loopw [12] (fun v wr => ∃ p : Nat, v = .int .i64 (numOf (X.take p) : Nat) ∧ p ≤ X.length ∧ wr = wa.iter ⟨X.toArray⟩ p) (fun _ wr => X.length - wr.iterPos wa.heap.size)
            case atStart => exact ⟨0, rfl, Nat.zero_le _, rfl⟩
            case round =>
              obtain ⟨p, rfl, hp, rfl⟩ := hrel
              by_cases hpl : p < X.length
              · have hnx := fun ty => next_word X p hpl (HXI.out.get p hpl) wa ty
                have hix := fun W => word_at X p hpl W
                have hlt2 := HXI.out.lt p hp
                have hst := numOf_take X p hpl
                have hlt3 := HXI.out.lt (p + 1) hpl
                obtain ⟨d, hd⟩ : ∃ d, (X.getD p 0).toNat = 48 + d := ⟨(X.getD p 0).toNat - 48, by rcases HXI.out.get p hpl with h | h <;> omega⟩
                have hd1 : d ≤ 1 := by rcases HXI.out.get p hpl with h | h <;> omega
                simp only [hd] at hnx hix
                rw [hd, show 48 + d - 48 = d by omega] at hst
                rw [hst] at hlt3
                generalize numOf (X.take p) = n at *
                have hnI : (n : Int) ≤ 32767 := by omega
                have hdI : (d : Int) ≤ 1 := by omega
                have HST := Lib.hid hst
                clear hst hd hlt2 hlt3
                go_wp2
                go_roundw
                case rel => exact ⟨p + 1, by rw [HST.out]; go_num, by omega, rfl⟩
                case measure => simp; omega
              · obtain rfl : p = X.length := by omega
                have hnx := fun ty => next_done X wa ty
                rw [List.take_length, HXI.out.num]
                have hbw : Below wz.heap.size wz (wa.iter ⟨X.toArray⟩ X.length) := hbz.alloc hbz.size (.stringIter ⟨X.toArray⟩ X.length)
                have hco := (hbw.cell (p := ⟨gg, j, none⟩) hGL).trans (out_get HG5.out hlt)
                have hol := HXI.out.nlt
                obtain ⟨q, hq⟩ : ∃ q, outL L j = q := ⟨_, rfl⟩
                rw [hq] at hco hol ⊢
                have hqI : (q : Int) ≤ 32767 := by omega
                clear hq hol
                go_wp2_with fail
                clear hco hnx hbz
                generalize wa.iter ⟨X.toArray⟩ X.length = wb at *
                go_loopw [121] (fun i wr => ∃ k : Nat, i = .int .i64 (k : Nat) ∧ k ≤ L.length ∧ wr = wb) (fun i _ => L.length - (intOf i).toNat)
                case atStart => exact ⟨0, rfl, Nat.zero_le _, rfl⟩
                case round =>
                  obtain ⟨k, rfl, hk, rfl⟩ := hrel
                  by_cases hkl : k < L.length
                  · have hcy := (hbw.cell (p := ⟨gw, k, none⟩) hWL).trans (text_get HW5.out hkl)
                    obtain ⟨Y, hY⟩ : ∃ Y, wordL L k = Y := ⟨_, rfl⟩
                    rw [hY] at hcy
                    have HY := Lib.hid hY
                    clear hY
                    by_cases hjk : j = k
                    · subst hjk
                      go_wp2
                      go_roundw
                      case rel => exact ⟨j + 1, by go_num, by omega, by first | rfl | trivial⟩
                      case measure => simp [intOf]; omega
                    · have hjk1 : ((j : Int) == (k : Int)) = false := by simp; omega
                      by_cases hX0 : X = []
                      · subst hX0
                        go_wp2
                        go_roundw
                        case rel => exact ⟨k + 1, by go_num, by omega, by first | rfl | trivial⟩
                        case measure => simp [intOf]; omega
                      · by_cases hY0 : Y = []
                        · subst hY0
                          have hXb : (X == []) = false := by simpa using hX0
                          go_wp2
                          go_roundw
                          case rel => exact ⟨k + 1, by go_num, by omega, by first | rfl | trivial⟩
                          case measure => simp [intOf]; omega
                        · have hXb : (X == []) = false := by simpa using hX0
                          have hYb : (Y == []) = false := by simpa using hY0
                          by_cases hXY : X.length ≤ Y.length
                          · have hXYI : (X.length : Int) ≤ (Y.length : Int) := by omega
                            have hsl := fun W => word_take Y X.length hXY W
                            have hno : Y.take X.length ≠ X := by
                              have := no_prefix HR.out H15.out hlt hkl hjk (by rw [HX.out]; exact hX0) (by rw [HX.out, HY.out]; exact hXY)
                              rw [HX.out, HY.out] at this
                              exact this
                            generalize Y.take X.length = Z at *
                            have hZb : (Z == X) = false := by simpa using hno
                            have HNO := Lib.hid hno
                            clear hno hX0 hY0 hXY
                            go_wp2
                            go_roundw
                            case rel => exact ⟨k + 1, by go_num, by omega, by first | rfl | trivial⟩
                            case measure => simp [intOf]; omega
                          · have hXYI : ¬ (X.length : Int) ≤ (Y.length : Int) := by omega
                            clear hX0 hY0 hXY
                            go_wp2
                            go_roundw
                            case rel => exact ⟨k + 1, by go_num, by omega, by first | rfl | trivial⟩
                            case measure => simp [intOf]; omega
                  · obtain rfl : k = L.length := by omega
                    go_wp2
                    go_roundw
                    case rel => exact ⟨j + 1, by go_num, by omega, hbw⟩
                    case measure => simp [intOf]; omega
          · obtain rfl : j = L.length := by omega
            go_wp2
            go_ret
            exact ⟨rfl, HB5.out.trans (hbz.mono HB5.out.size)⟩
  · replace hr : right L = false := by simpa using hr
    refine (len_form A3 c3 L _ hI3 hm H15.out hr).mono ?_
    rintro e w4 ⟨rfl, hb4⟩
    have h4 := h3.below hb4
    have hI4 := hI3.below hb4
    have hb4' := hb3.trans (hb4.mono hb3.size)
    clear h3 hI3 hb4
    go_wp2_with fail
    obtain ⟨wo, rfl⟩ : ∃ wo : World, wo = w4 := ⟨_, rfl⟩
    go_loopw [34] (fun i wr => ∃ j : Nat, i = .int .i64 (j : Nat) ∧ j ≤ L.length ∧ wr = wo) (fun i _ => L.length - (intOf i).toNat)
    case atStart => exact ⟨0, rfl, Nat.zero_le _, rfl⟩
    case round =>
      obtain ⟨j, rfl, hj, rfl⟩ := hrel
      by_cases hlt : j < L.length
      · obtain ⟨b, o, rfl, hblt, hc⟩ := h4.resolve_left (fun e => by subst e; simp at hlt)
        obtain ⟨b3, o3, rfl, hblt3, hc3⟩ := hI4.resolve_left (fun e => by subst e; simp at hlt)
        have hcell := hc j hlt
        have hcell3 := hc3 j hlt
        have HC := Lib.hid hc
        have HC3 := Lib.hid hc3
        have hz15 : L.getD j 0 ≤ 15 := H15.out _ (by rw [List.getD_eq_getElem?_getD, List.getElem?_eq_getElem hlt]; exact List.getElem_mem _)
        generalize L.getD j 0 = z at hcell hcell3 hz15
        have hzI : (z : Int) ≤ 15 := by omega
        clear hc hc3
        go_wp2
        go_roundw
        case rel => exact ⟨j + 1, by go_num, by omega, by first | rfl | trivial⟩
        case measure => simp [intOf]; omega
      · obtain rfl : j = L.length := by omega
        have hmI2 : ¬ (288 : Int) < (L.length : Int) := by omega
        go_wp2_with fail
        refine (words_n A L.length c L _ h4 rfl (by omega) H15.out).mono ?_
        rintro e w5 ⟨v5, rfl, hb5, _⟩
        rw [hr]
        go_wp2
        go_ret
        exact ⟨rfl, hb4'.trans (hb5.mono hb4'.size)⟩

/-- What came in, of lengths all in their range. -/
theorem IntsL.nums {w : World} {A : Option Addr} {zs : List Int} (h : IntsL w A zs) (hb : zs.any badZ = false) : ∃ L : List Nat, L.length = zs.length ∧ (∀ x ∈ L, x ≤ 15) ∧ NumsAt w A L := by
  rw [List.any_eq_false] at hb
  refine ⟨zs.map Int.toNat, by simp, ?_, ?_⟩
  · intro x hx
    obtain ⟨z, hz, rfl⟩ := List.mem_map.1 hx
    have := bad_false (by simpa using hb z hz)
    omega
  · rcases h with rfl | ⟨b, o, e, hlt, hc⟩
    · exact .inl rfl
    · refine .inr ⟨b, o, e, hlt, fun i hi => ?_⟩
      rw [List.length_map] at hi
      have := bad_false (z := zs[i]) (by simpa using hb zs[i] (List.getElem_mem _))
      rw [hc i hi]
      simp [List.getD_eq_getElem?_getD, hi]
      omega

set_option maxHeartbeats 1000000 in
set_option maxRecDepth 100000 in
theorem lenlaw_any (A : Option Addr) (zs : List Int) (n c : Nat) (w : World) (h : IntsL w A zs) (hn : n = zs.length) (hm : n ≤ maxLen) :
    Calls Try.prog 6 #[.slice A n c] w fun e w' => e = .returned (.bool true) ∧ Below w.heap.size w w' := by
  unfold maxLen at hm
  by_cases hl : 300 < n
  · have hl' : (300 : Int) < (n : Int) := by omega
    clear h
    go_enter Try.func6, Try.ntmps6
    go_wp2_with fail
    refine (lives_any _).mono ?_
    rintro e w1 ⟨rfl, hb1⟩
    go_wp2_with fail
    refine (lives_any _).mono ?_
    rintro e w2 ⟨rfl, hb2⟩
    go_wp2
    go_ret
    exact ⟨rfl, hb1.trans (hb2.mono hb1.size)⟩
  · subst hn
    by_cases hbad : 288 < zs.length ∨ zs.any badZ = true
    · exact lenlaw_far A zs c w h (by omega) hbad
    · obtain ⟨L, hL, h15, hN⟩ := h.nums (by simpa using fun e => hbad (.inr e))
      rw [← hL]
      exact lenlaw_ok A L c w hN (by omega) h15

theorem IsRow.ints {w : World} {a : Option Addr} {len cap : Nat} {zs : List Int} (h : IsRow .i64 w a len cap zs) : ∃ l : List Int, len = l.length ∧ len ≤ maxLen ∧ IntsL w a l := by
  rcases h with ⟨rfl, rfl, rfl, rfl⟩ | ⟨x, rfl, hl, hm, hz, hc, _⟩
  · exact ⟨[], rfl, by unfold maxLen; omega, .inl rfl⟩
  · refine ⟨zs.take len, by rw [List.length_take]; omega, by omega, ?_⟩
    by_cases h0 : len = 0
    · subst h0; exact .inl (by simp)
    · obtain ⟨b, o, spot⟩ := x
      have hs : spot = none := by
        have := World.cell?_spot (hc 0 (by omega))
        simpa [Addr.add] using this
      subst hs
      refine .inr ⟨b, o, rfl, ?_, fun i hi => ?_⟩
      · have := World.block_lt_of_cell? _ _ (hc 0 (by omega))
        rwa [addr_add] at this
      · rw [List.length_take] at hi
        have := hc i (by omega)
        rw [addr_add] at this
        rw [this]
        simp [List.getD_eq_getElem?_getD, show i < len by omega]

end Go.Proofs.Ythceefhnmjjddaa
