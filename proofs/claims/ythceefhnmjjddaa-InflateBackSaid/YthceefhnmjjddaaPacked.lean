/-
  The program's Stored, by a contract.
-/
import Derived.Test.YthceefhnmjjddaaText
import Derived.Test.YthceefhnmjjddaaPack
namespace Go.Proofs.Ythceefhnmjjddaa
open Go.RowKit

theorem xor_u8 : ∀ n : Nat, n < 256 → bits .xor .u8 IntKind.u8.max (n : Int) = ((255 - n : Nat) : Int) := by decide +kernel
def headA (n : Nat) (k : Int) : Array Value := #[.int .u8 k, .int .u8 ((n : Int) % 256), .int .u8 ((n : Int) / 256), .int .u8 (bits .xor .u8 IntKind.u8.max ((n : Int) % 256)), .int .u8 (bits .xor .u8 IntKind.u8.max ((n : Int) / 256))]
theorem headA_eq (n : Nat) (b : Bool) (hn : n ≤ 65535) : headA n (if b then 1 else 0) = (bytesV (headP n b)).toArray := by
  have e1 : (n : Int) % 256 = ((n % 256 : Nat) : Int) := by omega
  have e2 : (n : Int) / 256 = ((n / 256 : Nat) : Int) := by omega
  unfold headA
  rw [e1, e2, xor_u8 _ (by omega), xor_u8 _ (by omega)]
  have h1 : n.toUInt8.toNat = n % 256 := by simp
  have h2 : (n / 256).toUInt8.toNat = n / 256 := by simp; omega
  have h3 : (255 - n % 256).toUInt8.toNat = 255 - n % 256 := by simp; omega
  have h4 : (255 - n / 256).toUInt8.toNat = 255 - n / 256 := by simp; omega
  simp only [headP, bytesV, List.map_cons, List.map_nil, h1, h2, h3, h4]
  cases b <;> rfl
theorem head_src (w : World) (n : Nat) (b : Bool) (k : Int) (hk : k = if b then 1 else 0) (hn : n ≤ 65535) : Src (w.alloc (.cells (headA n k) 5)) (some ⟨w.heap.size, 0, none⟩) (bytesV (headP n b)) := by
  subst hk
  refine .inr ⟨_, rfl, fun j u hu => ?_⟩
  rw [addr_add, Nat.zero_add, cell_of_row _ _ _ _ _ _ (heap_alloc_new w _), headA_eq n b hn, List.getElem?_toArray]
  exact hu

def PackRel (w : World) (l : List UInt8) (s0 s3 : Value) (wr : World) : Prop :=
  ∃ (fl : Nat) (l' pre : List UInt8) (A : Option Addr) (cap : Nat), s0 = .slice A l'.length cap ∧ BytesAt w A l' ∧ (A = none → cap = 0) ∧ l'.length ≤ cap ∧
    wr.ownsRow w.heap.size 5 1 s3 pre.length (bytesV pre) ∧ Below w.heap.size w wr ∧ packS l = pre ++ storedP fl l' ∧ 65535 * fl ≥ l'.length + 1 ∧ pre.length + (storedP fl l').length ≤ 2000000

theorem pk_below {w wx w' : World} {v : Value} {n : Nat} {xs : List Value} (hbel : Below w.heap.size w wx) (hown : wx.ownsRow w.heap.size 5 1 v n xs) (hg : wx.grownBy w' v.ownBlock) : Below w.heap.size w w' :=
  hbel.grown hg hbel.size (fun k hk => (hown.lt k hk).1)
theorem pk_done {w w5 : World} {v : Value} {l l' pre : List UInt8} {n : Nat} (hown : w5.ownsRow w.heap.size 5 1 v (pre.length + 5 + l'.length) (bytesV pre ++ bytesV (headP n true) ++ bytesV l')) (hb : Below w.heap.size w w5) (hpk : packS l = pre ++ (headP n true ++ l')) :
    ∃ v', Ending.returned v = .returned v' ∧ w5.ownsRow w.heap.size 5 1 v' (packS l).length (bytesV (packS l)) ∧ Below w.heap.size w w5 := by
  refine ⟨v, rfl, ?_, hb⟩
  rw [hpk]
  have e1 : (pre ++ (headP n true ++ l')).length = pre.length + 5 + l'.length := by simp only [List.length_append, headP_length]; omega
  have e2 : bytesV (pre ++ (headP n true ++ l')) = bytesV pre ++ bytesV (headP n true) ++ bytesV l' := by rw [bytesV_append, bytesV_append, List.append_assoc]
  rw [e1, e2]
  exact hown
theorem src_nil (w : World) (A : Option Addr) : Src w A (bytesV []) := .inl rfl
theorem BytesAt.take {w : World} {A : Option Addr} {l : List UInt8} (h : BytesAt w A l) (n : Nat) : BytesAt w A (l.take n) := by
  rcases h with rfl | ⟨b, o, e, hb, hc⟩
  · exact .inl (by simp)
  · refine .inr ⟨b, o, e, hb, fun i hi => ?_⟩
    rw [List.length_take] at hi
    rw [hc i (by omega)]
    simp [List.getD_eq_getElem?_getD, show i < n by omega]
theorem BytesAt.drop {w : World} {b o : Nat} {l : List UInt8} (h : BytesAt w (some ⟨b, o, none⟩) l) (n : Nat) : BytesAt w (some ⟨b, o + n, none⟩) (l.drop n) := by
  rcases h with rfl | ⟨b', o', e, hb, hc⟩
  · exact .inl (by simp)
  · injection e with e
    injection e with e1 e2
    subst e1 e2
    refine .inr ⟨_, _, rfl, hb, fun i hi => ?_⟩
    rw [List.length_drop] at hi
    rw [Nat.add_assoc, hc (n + i) (by omega)]
    simp [List.getD_eq_getElem?_getD]
theorem pk_more {w w5 : World} {v : Value} {l l' pre : List UInt8} {bb oo cap fl : Nat} (hB : BytesAt w (some ⟨bb, oo, none⟩) l') (hc : l'.length ≤ cap) (hown : w5.ownsRow w.heap.size 5 1 v (pre.length + 5 + 65535) (bytesV pre ++ bytesV (headP 65535 false) ++ bytesV (l'.take 65535))) (hb : Below w.heap.size w w5) (hl : 65535 < l'.length) (hpk : packS l = pre ++ (headP 65535 false ++ l'.take 65535 ++ storedP fl (l'.drop 65535))) (hfl : 65535 * (fl + 1) ≥ l'.length + 1) (hsz : pre.length + (headP 65535 false ++ l'.take 65535 ++ storedP fl (l'.drop 65535)).length ≤ 2000000) :
    PackRel w l (.slice (some ⟨bb, oo + 65535, none⟩) (l'.length - 65535) (cap - 65535)) v w5 := by
  have e1 : (pre ++ headP 65535 false ++ l'.take 65535).length = pre.length + 5 + 65535 := by simp only [List.length_append, headP_length, List.length_take]; omega
  have e2 : bytesV (pre ++ headP 65535 false ++ l'.take 65535) = bytesV pre ++ bytesV (headP 65535 false) ++ bytesV (l'.take 65535) := by rw [bytesV_append, bytesV_append]
  refine ⟨fl, l'.drop 65535, pre ++ headP 65535 false ++ l'.take 65535, _, _, by rw [List.length_drop], hB.drop 65535, by simp, by rw [List.length_drop]; omega, by rw [e1, e2]; exact hown, hb, by rw [hpk]; simp, by rw [List.length_drop]; omega, ?_⟩
  rw [e1]
  simp only [List.length_append, headP_length, List.length_take] at hsz
  omega
theorem le63 {n : Nat} (h : n ≤ 3000000) : n ≤ maxLen ∧ n * 1 ≤ 140737488355328 := by unfold maxLen; omega
theorem storedP_len : ∀ fl l, (storedP fl l).length ≤ l.length + 5 * (l.length / 65535 + 1) := by
  intro fl
  induction fl with
  | zero => intro l; simp [storedP]
  | succ fl ih =>
    intro l
    unfold storedP
    by_cases h : l.length ≤ 65535
    · rw [if_pos h]; simp only [List.length_append, headP_length]; omega
    · rw [if_neg h]
      have := ih (l.drop 65535)
      rw [List.length_drop] at this
      simp only [List.length_append, headP_length, List.length_take]
      omega
theorem packS_len (l : List UInt8) : (packS l).length ≤ l.length + 5 * (l.length / 65535 + 1) := storedP_len _ _
theorem packS_le (l : List UInt8) (h : l.length ≤ 1048576) : (packS l).length ≤ 2000000 := by
  have := storedP_len (l.length + 1) l
  unfold packS
  omega

set_option maxHeartbeats 2000000 in
set_option maxRecDepth 100000 in
theorem stored_pack (A : Option Addr) (l : List UInt8) (cap : Nat) (w : World) (h : BytesAt w A l) (hA0 : A = none → cap = 0) (hc : l.length ≤ cap) (hl : l.length ≤ 1048576) :
    Calls Try.prog 12 #[.slice A l.length cap] w fun e w' => ∃ v, e = .returned v ∧ w'.ownsRow w.heap.size 5 1 v (packS l).length (bytesV (packS l)) ∧ Below w.heap.size w w' := by
  obtain ⟨i0, hi, hz0, hz1, hz2⟩ := info_parts info5
  go_enter Try.func12, Try.ntmps12
  go_wp2_with fail
  go_loopw [0, 3] (fun s0 s3 wr => PackRel w l s0 s3 wr) (fun s0 _ _ => lenV s0)
  case atStart => exact ⟨l.length + 1, l, [], A, cap, rfl, h, hA0, hc, World.ownsRow_nil _ _ _ _, Below.refl _ _, rfl, by omega, by have := packS_le l hl; simpa [packS] using this⟩
  case round =>
    obtain ⟨fl, l', pre, A', cap', rfl, hB, hA0', hc', hown, hbel, hpk, hfl, hsz⟩ := hrel
    obtain ⟨fl, rfl⟩ : ∃ f', fl = f' + 1 := ⟨fl - 1, by omega⟩
    obtain ⟨A3, c3, rfl⟩ := own_slice hown
    have hsg : IntKind.u8.signed = false := rfl
    clear hA0 h
    have hbs := hbel.size
    by_cases hle : l'.length ≤ 65535
    · have hst : storedP (fl + 1) l' = headP l'.length true ++ l' := if_pos hle
      rw [hst] at hpk hsz
      simp only [List.length_append, headP_length] at hsz
      have HPK := Lib.hid hpk
      have hleI : (l'.length : Int) ≤ 65535 := by omega
      have hsrc1 := head_src wr l'.length true 1 rfl hle
      have hone1 := Lib.hid (bytesV_one (headP l'.length true))
      have hlen1 := Lib.hid (show (bytesV (headP l'.length true)).length = 5 * 1 by rw [bytesV_length]; rfl)
      have hone2 := Lib.hid (bytesV_one l')
      have hlen2 := Lib.hid (show (bytesV l').length = l'.length * 1 by rw [bytesV_length]; omega)
      have h63a := Lib.hid (le63 (show pre.length + 5 ≤ 3000000 by omega))
      have h63b := Lib.hid (le63 (show pre.length + 5 + l'.length ≤ 3000000 by omega))
      clear hpk hst
      have hown1 := hown.alloc (.cells (headA l'.length 1) 5)
      clear hown
      rcases A' with _ | a
      · obtain rfl : cap' = 0 := hA0' rfl
        obtain rfl : l' = [] := List.eq_nil_of_length_eq_zero (by omega)
        have hsrc0 : Src (wr.alloc (.cells #[.int .u8 1, .int .u8 0, .int .u8 0, .int .u8 (bits .xor .u8 IntKind.u8.max 0), .int .u8 (bits .xor .u8 IntKind.u8.max 0)] 5)) (some ⟨wr.heap.size, 0, none⟩) (bytesV (headP 0 true)) := hsrc1
        have hown0 : (wr.alloc (.cells #[.int .u8 1, .int .u8 0, .int .u8 0, .int .u8 (bits .xor .u8 IntKind.u8.max 0), .int .u8 (bits .xor .u8 IntKind.u8.max 0)] 5)).ownsRow w.heap.size 5 1 (.slice A3 pre.length c3) pre.length (bytesV pre) := hown1
        clear hsrc1 hown1
        go_wp2_with (first | (at_builtin; (refine wpList_append_src _ rfl (.tmp 13) (.tmp 27) 22 rfl w.heap.size 5 i0 (.int .u8 0) 1 1 Try.underlying22 hi hz0 hz1 hz2 rfl (by decide) (.slice A3 pre.length c3) pre.length (bytesV pre) rfl hown0 (some ⟨wr.heap.size, 0, none⟩) 5 5 (bytesV (headP 0 true)) rfl hlen1.out hsrc0 hone1.out h63a.out.1 h63a.out.2 (by simp; omega) ?_); intro v4 w4 hown4 hgrow4; have hbel4 := pk_below (hbel.alloc hbs _) hown0 hgrow4; obtain ⟨A4, c4, rfl⟩ := own_slice hown4; replace hown4 := Lib.hid hown4; have hsrc2 := Lib.hid (fun A => src_nil w4 A); clear hown0 hgrow4 hsrc0) | (at_builtin; go_loud (refine wpList_append_src _ rfl (.tmp 29) (.tmp 33) 22 rfl w.heap.size 5 i0 (.int .u8 0) 1 1 Try.underlying22 hi hz0 hz1 hz2 rfl (by decide) (.slice A4 (pre.length + 5) c4) (pre.length + 5) (bytesV pre ++ bytesV (headP 0 true)) rfl hown4.out _ 0 0 (bytesV []) rfl hlen2.out (hsrc2.out _) hone2.out h63b.out.1 h63b.out.2 hbel4.size ?_; intro v5 w5 hown5 hgrow5; have hbel5 := pk_below hbel4 hown4.out hgrow5)))
        go_ret
        exact pk_done hown5 hbel5 HPK.out
      · clear hA0'
        by_cases h0 : l' = []
        · subst h0
          have hsrc0 : Src (wr.alloc (.cells #[.int .u8 1, .int .u8 0, .int .u8 0, .int .u8 (bits .xor .u8 IntKind.u8.max 0), .int .u8 (bits .xor .u8 IntKind.u8.max 0)] 5)) (some ⟨wr.heap.size, 0, none⟩) (bytesV (headP 0 true)) := hsrc1
          have hown0 : (wr.alloc (.cells #[.int .u8 1, .int .u8 0, .int .u8 0, .int .u8 (bits .xor .u8 IntKind.u8.max 0), .int .u8 (bits .xor .u8 IntKind.u8.max 0)] 5)).ownsRow w.heap.size 5 1 (.slice A3 pre.length c3) pre.length (bytesV pre) := hown1
          clear hsrc1 hown1
          by_cases hcc : cap' = 0
          · subst hcc
            go_wp2_with (first | (at_builtin; (refine wpList_append_src _ rfl (.tmp 13) (.tmp 27) 22 rfl w.heap.size 5 i0 (.int .u8 0) 1 1 Try.underlying22 hi hz0 hz1 hz2 rfl (by decide) (.slice A3 pre.length c3) pre.length (bytesV pre) rfl hown0 (some ⟨wr.heap.size, 0, none⟩) 5 5 (bytesV (headP 0 true)) rfl hlen1.out hsrc0 hone1.out h63a.out.1 h63a.out.2 (by simp; omega) ?_); intro v4 w4 hown4 hgrow4; have hbel4 := pk_below (hbel.alloc hbs _) hown0 hgrow4; obtain ⟨A4, c4, rfl⟩ := own_slice hown4; replace hown4 := Lib.hid hown4; have hsrc2 := Lib.hid (fun A => src_nil w4 A); clear hown0 hgrow4 hsrc0) | (at_builtin; go_loud (refine wpList_append_src _ rfl (.tmp 29) (.tmp 33) 22 rfl w.heap.size 5 i0 (.int .u8 0) 1 1 Try.underlying22 hi hz0 hz1 hz2 rfl (by decide) (.slice A4 (pre.length + 5) c4) (pre.length + 5) (bytesV pre ++ bytesV (headP 0 true)) rfl hown4.out _ 0 0 (bytesV []) rfl hlen2.out (hsrc2.out _) hone2.out h63b.out.1 h63b.out.2 hbel4.size ?_; intro v5 w5 hown5 hgrow5; have hbel5 := pk_below hbel4 hown4.out hgrow5)))
            go_ret
            exact pk_done hown5 hbel5 HPK.out
          · have hlt0 : 0 < cap' := by omega
            go_wp2_with (first | (at_builtin; (refine wpList_append_src _ rfl (.tmp 13) (.tmp 27) 22 rfl w.heap.size 5 i0 (.int .u8 0) 1 1 Try.underlying22 hi hz0 hz1 hz2 rfl (by decide) (.slice A3 pre.length c3) pre.length (bytesV pre) rfl hown0 (some ⟨wr.heap.size, 0, none⟩) 5 5 (bytesV (headP 0 true)) rfl hlen1.out hsrc0 hone1.out h63a.out.1 h63a.out.2 (by simp; omega) ?_); intro v4 w4 hown4 hgrow4; have hbel4 := pk_below (hbel.alloc hbs _) hown0 hgrow4; obtain ⟨A4, c4, rfl⟩ := own_slice hown4; replace hown4 := Lib.hid hown4; have hsrc2 := Lib.hid (fun A => src_nil w4 A); clear hown0 hgrow4 hsrc0) | (at_builtin; go_loud (refine wpList_append_src _ rfl (.tmp 29) (.tmp 33) 22 rfl w.heap.size 5 i0 (.int .u8 0) 1 1 Try.underlying22 hi hz0 hz1 hz2 rfl (by decide) (.slice A4 (pre.length + 5) c4) (pre.length + 5) (bytesV pre ++ bytesV (headP 0 true)) rfl hown4.out _ 0 0 (bytesV []) rfl hlen2.out (hsrc2.out _) hone2.out h63b.out.1 h63b.out.2 hbel4.size ?_; intro v5 w5 hown5 hgrow5; have hbel5 := pk_below hbel4 hown4.out hgrow5)))
            go_ret
            exact pk_done hown5 hbel5 HPK.out
        · obtain ⟨bb, oo, ha, hblt, hcells⟩ := hB.resolve_left h0
          injection ha with ha
          subst ha
          by_cases hcc : cap' = l'.length
          · subst hcc
            go_wp2_with (first | (at_builtin; (refine wpList_append_src _ rfl (.tmp 13) (.tmp 27) 22 rfl w.heap.size 5 i0 (.int .u8 0) 1 1 Try.underlying22 hi hz0 hz1 hz2 rfl (by decide) (.slice A3 pre.length c3) pre.length (bytesV pre) rfl hown1 (some ⟨wr.heap.size, 0, none⟩) 5 5 (bytesV (headP l'.length true)) rfl hlen1.out hsrc1 hone1.out h63a.out.1 h63a.out.2 (by simp; omega) ?_); intro v4 w4 hown4 hgrow4; have hbel4 := pk_below (hbel.alloc hbs _) hown1 hgrow4; obtain ⟨A4, c4, rfl⟩ := own_slice hown4; replace hown4 := Lib.hid hown4; have hsrc2 := Lib.hid ((hB.below hbel4).src); clear hown1 hgrow4 hsrc1) | (at_builtin; go_loud (refine wpList_append_src _ rfl (.tmp 29) (.tmp 33) 22 rfl w.heap.size 5 i0 (.int .u8 0) 1 1 Try.underlying22 hi hz0 hz1 hz2 rfl (by decide) (.slice A4 (pre.length + 5) c4) (pre.length + 5) (bytesV pre ++ bytesV (headP l'.length true)) rfl hown4.out _ l'.length l'.length (bytesV l') rfl hlen2.out hsrc2.out hone2.out h63b.out.1 h63b.out.2 hbel4.size ?_; intro v5 w5 hown5 hgrow5; have hbel5 := pk_below hbel4 hown4.out hgrow5)))
            go_ret
            exact pk_done hown5 hbel5 HPK.out
          · have hc0 : (l'.length : Int) ≤ (cap' : Int) := by omega
            have hlt0 : l'.length < cap' := by omega
            go_wp2_with (first | (at_builtin; (refine wpList_append_src _ rfl (.tmp 13) (.tmp 27) 22 rfl w.heap.size 5 i0 (.int .u8 0) 1 1 Try.underlying22 hi hz0 hz1 hz2 rfl (by decide) (.slice A3 pre.length c3) pre.length (bytesV pre) rfl hown1 (some ⟨wr.heap.size, 0, none⟩) 5 5 (bytesV (headP l'.length true)) rfl hlen1.out hsrc1 hone1.out h63a.out.1 h63a.out.2 (by simp; omega) ?_); intro v4 w4 hown4 hgrow4; have hbel4 := pk_below (hbel.alloc hbs _) hown1 hgrow4; obtain ⟨A4, c4, rfl⟩ := own_slice hown4; replace hown4 := Lib.hid hown4; have hsrc2 := Lib.hid ((hB.below hbel4).src); clear hown1 hgrow4 hsrc1) | (at_builtin; go_loud (refine wpList_append_src _ rfl (.tmp 29) (.tmp 33) 22 rfl w.heap.size 5 i0 (.int .u8 0) 1 1 Try.underlying22 hi hz0 hz1 hz2 rfl (by decide) (.slice A4 (pre.length + 5) c4) (pre.length + 5) (bytesV pre ++ bytesV (headP l'.length true)) rfl hown4.out _ l'.length l'.length (bytesV l') rfl hlen2.out hsrc2.out hone2.out h63b.out.1 h63b.out.2 hbel4.size ?_; intro v5 w5 hown5 hgrow5; have hbel5 := pk_below hbel4 hown4.out hgrow5)))
            go_ret
            exact pk_done hown5 hbel5 HPK.out
    · have hst : storedP (fl + 1) l' = headP 65535 false ++ l'.take 65535 ++ storedP fl (l'.drop 65535) := if_neg hle
      rw [hst] at hpk hsz
      have hgtI : (65535 : Int) < (l'.length : Int) := by omega
      have hge2 : (65535 : Int) ≤ (cap' : Int) := by omega
      have hlt0 : 65535 < cap' := by omega
      have hnb : ((65535 : Int) == (l'.length : Int)) = false := by simp; omega
      have hsrc1 : Src (wr.alloc (.cells #[.int .u8 0, .int .u8 255, .int .u8 255, .int .u8 (bits .xor .u8 IntKind.u8.max 255), .int .u8 (bits .xor .u8 IntKind.u8.max 255)] 5)) (some ⟨wr.heap.size, 0, none⟩) (bytesV (headP 65535 false)) := head_src wr 65535 false 0 rfl (by omega)
      have hone1 := Lib.hid (bytesV_one (headP 65535 false))
      have hlen1 := Lib.hid (show (bytesV (headP 65535 false)).length = 5 * 1 by rw [bytesV_length]; rfl)
      have hone2 := Lib.hid (bytesV_one (l'.take 65535))
      have hlen2 := Lib.hid (show (bytesV (l'.take 65535)).length = 65535 * 1 by rw [bytesV_length, List.length_take]; omega)
      have hsz2 : pre.length + 5 + 65535 ≤ 3000000 := by simp only [List.length_append, headP_length, List.length_take] at hsz; omega
      have h63a := Lib.hid (le63 (show pre.length + 5 ≤ 3000000 by omega))
      have h63b := Lib.hid (le63 hsz2)
      have hown1 := hown.alloc (.cells #[.int .u8 0, .int .u8 255, .int .u8 255, .int .u8 (bits .xor .u8 IntKind.u8.max 255), .int .u8 (bits .xor .u8 IntKind.u8.max 255)] 5)
      have hne : l' ≠ [] := by intro e; subst e; simp at hle
      have HPK := Lib.hid hpk
      have HSZ := Lib.hid hsz
      clear hpk hst hown hsz
      obtain ⟨bb, oo, ha, hblt, hcells⟩ := hB.resolve_left hne
      subst ha
      clear hne hA0' hcells
      go_wp2_with (first | (at_builtin; (refine wpList_append_src _ rfl (.tmp 13) (.tmp 27) 22 rfl w.heap.size 5 i0 (.int .u8 0) 1 1 Try.underlying22 hi hz0 hz1 hz2 rfl (by decide) (.slice A3 pre.length c3) pre.length (bytesV pre) rfl hown1 (some ⟨wr.heap.size, 0, none⟩) 5 5 (bytesV (headP 65535 false)) rfl hlen1.out hsrc1 hone1.out h63a.out.1 h63a.out.2 (by simp; omega) ?_); intro v4 w4 hown4 hgrow4; have hbel4 := pk_below (hbel.alloc hbs _) hown1 hgrow4; obtain ⟨A4, c4, rfl⟩ := own_slice hown4; replace hown4 := Lib.hid hown4; have hsrc2 := Lib.hid ((hB.below hbel4).take 65535).src; clear hown1 hgrow4 hsrc1) | (at_builtin; go_loud (refine wpList_append_src _ rfl (.tmp 29) (.tmp 33) 22 rfl w.heap.size 5 i0 (.int .u8 0) 1 1 Try.underlying22 hi hz0 hz1 hz2 rfl (by decide) (.slice A4 (pre.length + 5) c4) (pre.length + 5) (bytesV pre ++ bytesV (headP 65535 false)) rfl hown4.out (some ⟨bb, oo, none⟩) 65535 65535 (bytesV (l'.take 65535)) rfl hlen2.out hsrc2.out hone2.out h63b.out.1 h63b.out.2 hbel4.size ?_; intro v5 w5 hown5 hgrow5; have hbel5 := pk_below hbel4 hown4.out hgrow5)))
      go_roundw
      case rel => exact pk_more hB hc' hown5 hbel5 (by omega) HPK.out hfl HSZ.out
      case measure => simp [lenV]; omega

end Go.Proofs.Ythceefhnmjjddaa
