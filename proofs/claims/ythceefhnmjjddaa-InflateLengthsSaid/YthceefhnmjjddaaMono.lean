/-
  A block ends behind its beginning; how a text's blocks are read, step by step. Plain words.
-/
import Derived.Test.YthceefhnmjjddaaLens
namespace Go.Proofs.Ythceefhnmjjddaa

theorem numS_mono {T : List UInt8} {s : Option Nat} {n I I' : Nat} (h : (numS T s n).2 = some I') (hs : ∀ J, s = some J → I ≤ J ∧ J ≤ 8 * T.length) : I ≤ I' ∧ I' ≤ 8 * T.length := by
  rcases s with _ | J
  · rw [numS_none] at h; cases h
  · obtain ⟨h1, h2⟩ := hs J rfl
    have := numS_le T J n I' h h2
    omega
theorem bitS_mono {T : List UInt8} {I J : Nat} (h : (bitS T (some I)).2 = some J) : J = I + 1 ∧ J ≤ 8 * T.length := by
  unfold bitS at h
  simp only at h
  split at h
  · injection h with h; omega
  · cases h
theorem bytesS_mono {T : List UInt8} : ∀ n I out out' I', I ≤ 8 * T.length → bytesS T n I out = .ok (out', I') → I ≤ I' ∧ I' ≤ 8 * T.length := by
  intro n
  induction n with
  | zero => intro I out out' I' hI h; injection h with h; injection h with _ h; omega
  | succ n ih =>
    intro I out out' I' hI h
    unfold bytesS at h
    generalize hr : numS T (some I) 8 = r at h
    obtain ⟨b, s⟩ := r
    rcases s with _ | J
    · cases h
    · simp only at h
      have hJ := numS_le T I 8 J (by rw [hr]) hI
      split at h
      · have := ih J _ _ _ hJ.2 h; omega
      · cases h
theorem storedS_mono {T : List UInt8} {I I' : Nat} {out out' : List UInt8} (hI : I ≤ 8 * T.length) (h : storedS T I out = .ok (out', I')) : I ≤ I' ∧ I' ≤ 8 * T.length := by
  unfold storedS at h
  generalize hr : numS T (some (8 * ((I + 7) / 8))) 16 = r at h
  obtain ⟨n, s⟩ := r
  simp only at h
  generalize hr2 : numS T s 16 = r2 at h
  obtain ⟨m, s2⟩ := r2
  rcases s2 with _ | J
  · cases h
  · have hJ : I ≤ J ∧ J ≤ 8 * T.length := numS_mono (s := s) (n := 16) (by rw [hr2]) (fun K hK => by
      have := numS_le T (8 * ((I + 7) / 8)) 16 K (by rw [hr]; exact hK) (by omega)
      omega)
    unfold storedK at h
    simp only at h
    split at h
    · have := bytesS_mono _ _ _ _ _ hJ.2 h; omega
    · cases h
theorem codedF_mono {T : List UInt8} {L1 L2 : List Nat} : ∀ f I out out' I', I ≤ 8 * T.length → codedF T L1 L2 f I out = .ok (out', I') → I ≤ I' ∧ I' ≤ 8 * T.length := by
  intro f
  induction f with
  | zero => intro I out out' I' _ h; cases h
  | succ f ih =>
    intro I out out' I' hI h
    unfold codedF at h
    generalize hs : signS T L1 I = o at h
    rcases o with _ | ⟨s, I1⟩
    · cases h
    · have h1 := signS_bd hs
      simp only at h
      split at h
      · injection h with h; injection h with _ h; omega
      · split at h
        · split at h
          · have := ih _ _ _ _ (by omega) h; omega
          · cases h
        · generalize hl : lengthS T s I1 = o2 at h
          rcases o2 with _ | ⟨n, I2⟩
          · cases h
          · have h2 : I1 ≤ I2 ∧ I2 ≤ 8 * T.length := by
              unfold lengthS at hl
              split at hl
              · injection hl with hl; injection hl with _ hl; omega
              · split at hl
                · injection hl with hl; injection hl with _ hl; omega
                · split at hl
                  · cases hl
                  · generalize hr : numS T (some I1) ((s - 261) / 4) = r at hl
                    obtain ⟨b, st⟩ := r
                    rcases st with _ | J
                    · cases hl
                    · injection hl with hl; injection hl with _ hl
                      have := numS_le T I1 _ J (by rw [hr]) (by omega)
                      omega
            simp only at h
            generalize hs2 : signS T L2 I2 = o3 at h
            rcases o3 with _ | ⟨k, I3⟩
            · cases h
            · have h3 := signS_bd hs2
              simp only at h
              generalize hd : distS T k I3 = o4 at h
              rcases o4 with _ | ⟨d, I4⟩
              · cases h
              · have h4 : I3 ≤ I4 ∧ I4 ≤ 8 * T.length := by
                  unfold distS at hd
                  split at hd
                  · injection hd with hd; injection hd with _ hd; omega
                  · split at hd
                    · cases hd
                    · generalize hr : numS T (some I3) ((k - 2) / 2) = r at hd
                      obtain ⟨b, st⟩ := r
                      rcases st with _ | J
                      · cases hd
                      · injection hd with hd; injection hd with _ hd
                        have := numS_le T I3 _ J (by rw [hr]) (by omega)
                        omega
                simp only at h
                split at h
                · cases h
                · generalize hc : copyS d n out = c at h
                  rcases c with e | out2
                  · cases h
                  · have := ih _ _ _ _ (by omega) h; omega
theorem codesS_mono {T : List UInt8} : ∀ cs codes s codes' I I', (∀ J, s = some J → I ≤ J ∧ J ≤ 8 * T.length) → codesS T cs codes s = (codes', some I') → I ≤ I' ∧ I' ≤ 8 * T.length := by
  intro cs
  induction cs with
  | nil => intro codes s codes' I I' hs h; injection h with _ h; exact hs I' h
  | cons c cs ih =>
    intro codes s codes' I I' hs h
    exact ih _ _ _ I I' (fun J hJ => numS_mono hJ hs) h
theorem lensF_mono {T : List UInt8} {L : List Nat} {target : Nat} : ∀ f l I l' I', I ≤ 8 * T.length → lensF T L target f l I = some (l', I') → I ≤ I' ∧ I' ≤ 8 * T.length := by
  intro f
  induction f with
  | zero => intro l I l' I' _ h; cases h
  | succ f ih =>
    intro l I l' I' hI h
    by_cases hl : l.length < target
    · rw [lensF_step hl] at h
      have hR : ∀ (J n : Nat) (g : Nat → List Nat), I ≤ J → J ≤ 8 * T.length → lensR T L target f g (numS T (some J) n) = some (l', I') → I ≤ I' ∧ I' ≤ 8 * T.length := by
        intro J n g h1 h2 h3
        generalize hr : numS T (some J) n = r at h3
        obtain ⟨v, st⟩ := r
        rcases st with _ | K
        · cases h3
        · have := numS_le T J n K (by rw [hr]) h2
          have := ih _ _ _ _ this.2 h3
          omega
      generalize hs : signS T L I = o at h
      rcases o with _ | ⟨s, I1⟩
      · cases h
      · have h1 := signS_bd hs
        simp only [lensK] at h
        split at h
        · have := ih _ _ _ _ (by omega) h; omega
        · split at h
          · split at h
            · cases h
            · exact hR _ _ _ (by omega) (by omega) h
          · split at h
            · exact hR _ _ _ (by omega) (by omega) h
            · exact hR _ _ _ (by omega) (by omega) h
    · rw [lensF_end hl (by omega)] at h
      injection h with h; injection h with _ h; omega
theorem ownS_mono {T : List UInt8} {I I' : Nat} {L1 L2 : List Nat} (hI : I ≤ 8 * T.length) (h : ownS T I = some (L1, L2, I')) : I ≤ I' ∧ I' ≤ 8 * T.length := by
  unfold ownS at h
  generalize hn : orderL.take _ = cs at h
  generalize (numS T (some I) 5).1 + 257 = ns at h
  generalize (numS T (numS T (some I) 5).2 5).1 + 1 = nd at h
  have hst : ∀ J, (numS T (numS T (numS T (some I) 5).2 5).2 4).2 = some J → I ≤ J ∧ J ≤ 8 * T.length := fun J hJ => numS_mono hJ fun K hK => numS_mono hK fun M hM => numS_mono hM fun N hN => by injection hN with hN; omega
  generalize (numS T (numS T (numS T (some I) 5).2 5).2 4).2 = st at h hst
  generalize hc : codesS T cs (List.replicate 19 0) st = r at h
  obtain ⟨codes, s⟩ := r
  rcases s with _ | J
  · cases h
  · have hJ := codesS_mono _ _ _ _ I J hst hc
    have h : tailS T ns nd codes J = some (L1, L2, I') := h
    unfold tailS at h
    split at h
    · generalize hl : lensF T codes (ns + nd) (ns + nd + 1) [] J = o at h
      rcases o with _ | ⟨l, K⟩
      · cases h
      · have hK := lensF_mono _ _ _ _ _ hJ.2 hl
        simp only at h
        split at h
        · injection h with h; injection h with _ h; injection h with _ h; omega
        · cases h
    · cases h
theorem blockS_mono {T : List UInt8} {kind I I' : Nat} {out out' : List UInt8} (hI : I ≤ 8 * T.length) (h : blockS T kind I out = .ok (out', I')) : I ≤ I' ∧ I' ≤ 8 * T.length := by
  unfold blockS at h
  split at h
  · exact storedS_mono hI h
  · split at h
    · cases h
    · generalize ht : tabsS T kind I = o at h
      rcases o with _ | ⟨L1, L2, J⟩
      · cases h
      · have hJ : I ≤ J ∧ J ≤ 8 * T.length := by
          unfold tabsS at ht
          split at ht
          · exact ownS_mono hI ht
          · injection ht with ht; injection ht with _ ht; injection ht with _ ht; omega
        have := codedF_mono _ _ _ _ _ hJ.2 h
        omega

/-- Behind a block. -/
def blocksT (T : List UInt8) (f last : Nat) : Except Int (List UInt8 × Nat) → Except Int (List UInt8 × Nat)
  | .error e => .error e
  | .ok (out', I'') => if last = 1 then .ok (out', I'') else blocksF T f I'' out'
def blocksK (T : List UInt8) (f last : Nat) (out : List UInt8) : Nat × Option Nat → Except Int (List UInt8 × Nat)
  | (kind, some I') => blocksT T f last (blockS T kind I' out)
  | (_, none) => .error 2
theorem blocksF_step (T : List UInt8) (f I : Nat) (out : List UInt8) : blocksF T (f + 1) I out = blocksK T f (bitS T (some I)).1 out (numS T (bitS T (some I)).2 2) := by
  show (match numS T (bitS T (some I)).2 2 with
    | (_, none) => Except.error 2
    | (kind, some I') =>
      match blockS T kind I' out with
      | .error e => .error e
      | .ok (out', I'') => if (bitS T (some I)).1 = 1 then .ok (out', I'') else blocksF T f I'' out') = _
  generalize numS T (bitS T (some I)).2 2 = r
  obtain ⟨k, s⟩ := r
  rcases s with _ | J
  · rfl
  · show _ = blocksT T f _ (blockS T k J out)
    simp only
    generalize blockS T k J out = b
    rcases b with e | ⟨o, J'⟩ <;> rfl
theorem blockS_0 (T : List UInt8) (I : Nat) (out : List UInt8) : blockS T 0 I out = storedS T I out := if_pos rfl
theorem blockS_3 (T : List UInt8) (I : Nat) (out : List UInt8) : blockS T 3 I out = .error 2 := (if_neg (by decide)).trans (if_pos rfl)
def blockT (T : List UInt8) (out : List UInt8) : Option (List Nat × List Nat × Nat) → Except Int (List UInt8 × Nat)
  | none => .error 2
  | some (L1, L2, I') => codedS T L1 L2 I' out
theorem blockS_tabs (T : List UInt8) (k I : Nat) (out : List UInt8) (h0 : k ≠ 0) (h3 : k ≠ 3) : blockS T k I out = blockT T out (tabsS T k I) := by
  unfold blockS
  rw [if_neg h0, if_neg h3]
  generalize tabsS T k I = o
  rcases o with _ | ⟨L1, L2, J⟩ <;> rfl
theorem blockS_1 (T : List UInt8) (I : Nat) (out : List UInt8) : blockS T 1 I out = codedS T fixL fixD I out := by
  rw [blockS_tabs _ _ _ _ (by decide) (by decide)]
  have e : tabsS T 1 I = some (fixL, fixD, I) := if_neg (by decide)
  rw [e]
  rfl
theorem blockS_2 (T : List UInt8) (I : Nat) (out : List UInt8) : blockS T 2 I out = blockT T out (ownS T I) := by
  rw [blockS_tabs _ _ _ _ (by decide) (by decide)]
  have e : tabsS T 2 I = ownS T I := if_pos rfl
  rw [e]

end Go.Proofs.Ythceefhnmjjddaa
