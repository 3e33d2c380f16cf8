/-
  No cell of these rows narrows 'for every input' (looked for: loops, veiled, ifaces, maps, wideKeys, modest, calm, conditions, laid).
  DERIVED. THE GIVEN ROWS OF THIS SEAT. 5 by the template 'for every input the law returns true; each argument reads behind the call as it read before'; 0 by the template 'total and deterministic' (their statements: YthceefhnmjjddaaTotals.lean).
  GIVEN WITH THE SEED: the statements are not yours to turn. If you find one false, say at which input.
  Laid BY PROGRAM, IN A SANDBOX (cutbox-rows.mjs): the forced cells as the released guide's own fill.sh prints them over the translation 64b615dee99fe2a7… (all of the seat's roots in one cut). By AI agents, Wed Nov 11 2026. No macro, syntax, notation, axiom, sorry.
-/
import Derived.Test.YthceefhnmjjddaaChecked
import GoSem.Claim
import GoSem.ClaimJoined
import GoSem.ClaimMapViews
import Derived.JoinedTies
import Derived.KernelRfl
namespace Go.Proofs.Ythceefhnmjjddaa
/- THE CELL 'sum', in the pinned program and in every row, IS THE sha256 OF THE DUMP (.gsa) THAT YthceefhnmjjddaaProg.lean LOADS. Nothing in Lean hashes anything: it is a label: what it is worth is what the hold of that sum in a sandbox is worth. -/
noncomputable def Try.pinned : Pinned := { name := "ythceefhnmjjddaa", sum := "64b615dee99fe2a7781b348ebff3bdda3b9eea9460340e607150f069be092421", checked := Try.checked }
namespace Rows
def none {H : Type} : Left H := { results := [], args := [] }

/-- 'cordonlaw39.InflateReads': WHATEVER THE INPUT: true; the input reads as it did. -/
def inflateReadsSpec : ChangeSpec := { name := "inflateReads", fn := fun _ => fun
  | [d] => { results := [.lit (.bool true)], args := [d] }
  | _ => none }
def inflateReadsRow : OpenClaim := { program := "ythceefhnmjjddaa", sum := "64b615dee99fe2a7781b348ebff3bdda3b9eea9460340e607150f069be092421", func := "cordon/cordonlaw39.InflateReads", spec := "inflateReads", apart := false }
def InflateReadsSaid : Prop := inflateReadsRow.holds Try.pinned (OpenSpec.ofChange inflateReadsSpec)

/-- ITS FALSE NEIGHBOUR: 'it returns false'. Refute it at one input. -/
def inflateReadsWrong : ChangeSpec := { name := "inflateReads", fn := fun _ => fun
  | [d] => { results := [.lit (.bool false)], args := [d] }
  | _ => none }
def InflateReadsWrongFalsely : Prop := inflateReadsRow.holds Try.pinned (OpenSpec.ofChange inflateReadsWrong)

/-- 'cordonlaw39.InflateOwn': WHATEVER THE INPUT: true; the input reads as it did. -/
def inflateOwnSpec : ChangeSpec := { name := "inflateOwn", fn := fun _ => fun
  | [d1, d2] => { results := [.lit (.bool true)], args := [d1, d2] }
  | _ => none }
def inflateOwnRow : OpenClaim := { program := "ythceefhnmjjddaa", sum := "64b615dee99fe2a7781b348ebff3bdda3b9eea9460340e607150f069be092421", func := "cordon/cordonlaw39.InflateOwn", spec := "inflateOwn", unfollowed := true, recurses := true, apart := false }
def InflateOwnSaid : Prop := inflateOwnRow.holds Try.pinned (OpenSpec.ofChange inflateOwnSpec)

/-- ITS FALSE NEIGHBOUR: 'it returns false'. Refute it at one input. -/
def inflateOwnWrong : ChangeSpec := { name := "inflateOwn", fn := fun _ => fun
  | [d1, d2] => { results := [.lit (.bool false)], args := [d1, d2] }
  | _ => none }
def InflateOwnWrongFalsely : Prop := inflateOwnRow.holds Try.pinned (OpenSpec.ofChange inflateOwnWrong)

/-- 'cordonlaw39.InflateLong': WHATEVER THE INPUT: true; the input reads as it did. -/
def inflateLongSpec : ChangeSpec := { name := "inflateLong", fn := fun _ => fun
  | [d1, d2] => { results := [.lit (.bool true)], args := [d1, d2] }
  | _ => none }
def inflateLongRow : OpenClaim := { program := "ythceefhnmjjddaa", sum := "64b615dee99fe2a7781b348ebff3bdda3b9eea9460340e607150f069be092421", func := "cordon/cordonlaw39.InflateLong", spec := "inflateLong", apart := false }
def InflateLongSaid : Prop := inflateLongRow.holds Try.pinned (OpenSpec.ofChange inflateLongSpec)

/-- ITS FALSE NEIGHBOUR: 'it returns false'. Refute it at one input. -/
def inflateLongWrong : ChangeSpec := { name := "inflateLong", fn := fun _ => fun
  | [d1, d2] => { results := [.lit (.bool false)], args := [d1, d2] }
  | _ => none }
def InflateLongWrongFalsely : Prop := inflateLongRow.holds Try.pinned (OpenSpec.ofChange inflateLongWrong)

/-- 'cordonlaw39.InflateLengths': WHATEVER THE INPUT: true; the input reads as it did. -/
def inflateLengthsSpec : ChangeSpec := { name := "inflateLengths", fn := fun _ => fun
  | [d] => { results := [.lit (.bool true)], args := [d] }
  | _ => none }
def inflateLengthsRow : OpenClaim := { program := "ythceefhnmjjddaa", sum := "64b615dee99fe2a7781b348ebff3bdda3b9eea9460340e607150f069be092421", func := "cordon/cordonlaw39.InflateLengths", spec := "inflateLengths", unfollowed := true, recurses := true, apart := false }
def InflateLengthsSaid : Prop := inflateLengthsRow.holds Try.pinned (OpenSpec.ofChange inflateLengthsSpec)

/-- ITS FALSE NEIGHBOUR: 'it returns false'. Refute it at one input. -/
def inflateLengthsWrong : ChangeSpec := { name := "inflateLengths", fn := fun _ => fun
  | [d] => { results := [.lit (.bool false)], args := [d] }
  | _ => none }
def InflateLengthsWrongFalsely : Prop := inflateLengthsRow.holds Try.pinned (OpenSpec.ofChange inflateLengthsWrong)

/-- 'cordonlaw39.InflateBack': WHATEVER THE INPUT: true; the input reads as it did. -/
def inflateBackSpec : ChangeSpec := { name := "inflateBack", fn := fun _ => fun
  | [d1, d2] => { results := [.lit (.bool true)], args := [d1, d2] }
  | _ => none }
def inflateBackRow : OpenClaim := { program := "ythceefhnmjjddaa", sum := "64b615dee99fe2a7781b348ebff3bdda3b9eea9460340e607150f069be092421", func := "cordon/cordonlaw39.InflateBack", spec := "inflateBack", apart := false }
def InflateBackSaid : Prop := inflateBackRow.holds Try.pinned (OpenSpec.ofChange inflateBackSpec)

/-- ITS FALSE NEIGHBOUR: 'it returns false'. Refute it at one input. -/
def inflateBackWrong : ChangeSpec := { name := "inflateBack", fn := fun _ => fun
  | [d1, d2] => { results := [.lit (.bool false)], args := [d1, d2] }
  | _ => none }
def InflateBackWrongFalsely : Prop := inflateBackRow.holds Try.pinned (OpenSpec.ofChange inflateBackWrong)

/- THE SECOND FORM. 'bulk': how many values and letters a reading holds, each counted each time it is reached (what is shared counts as often as it is met; a slice's spare places count too). A statement '..UptoSaid' is the law's where the arguments, and the package variables that the reading takes, are together of bulk at most 1048576: NARROWER than '..Said'. Prove '..Said' where nothing that the law and all that it calls make is longer than what came in: it says more and counts as full. Else prove '..UptoSaid'. A law counts once. -/
mutual
def uptoBulk {H : Type} : DataW H → Nat
  | .lit (.string bytes) => bytes.length + 1
  | .lit _ => 1
  | .nil => 1
  | .ptr d => uptoBulk d + 1
  | .slice elems spare => uptoBulkAll elems + uptoBulkAll spare + 1
  | .agg parts => uptoBulkAll parts + 1
  | .iface _ d => uptoBulk d + 1
  | .map entries => uptoBulkEntries entries + 1
  | .held _ => 1
def uptoBulkAll {H : Type} : List (DataW H) → Nat
  | [] => 0
  | d :: r => uptoBulk d + uptoBulkAll r
def uptoBulkEntries {H : Type} : List (Lit × DataW H) → Nat
  | [] => 0
  | x :: r => uptoBulkEntry x + uptoBulkEntries r
def uptoBulkEntry {H : Type} : Lit × DataW H → Nat
  | (.string bytes, d) => bytes.length + uptoBulk d + 1
  | (_, d) => uptoBulk d + 1
 end
def uptoSmall : (H : Type) → List (DataW H) → Bool := fun _ ds => decide (uptoBulkAll ds ≤ 1048576)
def OpenSpec.upto (s : _root_.Go.ChangeSpec) : _root_.Go.OpenSpec := { _root_.Go.OpenSpec.ofChange s with cond := some uptoSmall }

/-- 'cordonlaw39.InflateReads', WHERE WHAT IT READS IS OF BULK AT MOST 1048576: true; the input reads as it did. -/
def inflateReadsUptoRow : OpenClaim := { program := "ythceefhnmjjddaa", sum := "64b615dee99fe2a7781b348ebff3bdda3b9eea9460340e607150f069be092421", func := "cordon/cordonlaw39.InflateReads", spec := "inflateReads", apart := false, narrowed := true }
def InflateReadsUptoSaid : Prop := inflateReadsUptoRow.holds Try.pinned (OpenSpec.upto inflateReadsSpec)

/-- 'cordonlaw39.InflateOwn', WHERE WHAT IT READS IS OF BULK AT MOST 1048576: true; the input reads as it did. -/
def inflateOwnUptoRow : OpenClaim := { program := "ythceefhnmjjddaa", sum := "64b615dee99fe2a7781b348ebff3bdda3b9eea9460340e607150f069be092421", func := "cordon/cordonlaw39.InflateOwn", spec := "inflateOwn", unfollowed := true, recurses := true, apart := false, narrowed := true }
def InflateOwnUptoSaid : Prop := inflateOwnUptoRow.holds Try.pinned (OpenSpec.upto inflateOwnSpec)

/-- 'cordonlaw39.InflateLong', WHERE WHAT IT READS IS OF BULK AT MOST 1048576: true; the input reads as it did. -/
def inflateLongUptoRow : OpenClaim := { program := "ythceefhnmjjddaa", sum := "64b615dee99fe2a7781b348ebff3bdda3b9eea9460340e607150f069be092421", func := "cordon/cordonlaw39.InflateLong", spec := "inflateLong", apart := false, narrowed := true }
def InflateLongUptoSaid : Prop := inflateLongUptoRow.holds Try.pinned (OpenSpec.upto inflateLongSpec)

/-- 'cordonlaw39.InflateLengths', WHERE WHAT IT READS IS OF BULK AT MOST 1048576: true; the input reads as it did. -/
def inflateLengthsUptoRow : OpenClaim := { program := "ythceefhnmjjddaa", sum := "64b615dee99fe2a7781b348ebff3bdda3b9eea9460340e607150f069be092421", func := "cordon/cordonlaw39.InflateLengths", spec := "inflateLengths", unfollowed := true, recurses := true, apart := false, narrowed := true }
def InflateLengthsUptoSaid : Prop := inflateLengthsUptoRow.holds Try.pinned (OpenSpec.upto inflateLengthsSpec)

/-- 'cordonlaw39.InflateBack', WHERE WHAT IT READS IS OF BULK AT MOST 1048576: true; the input reads as it did. -/
def inflateBackUptoRow : OpenClaim := { program := "ythceefhnmjjddaa", sum := "64b615dee99fe2a7781b348ebff3bdda3b9eea9460340e607150f069be092421", func := "cordon/cordonlaw39.InflateBack", spec := "inflateBack", apart := false, narrowed := true }
def InflateBackUptoSaid : Prop := inflateBackUptoRow.holds Try.pinned (OpenSpec.upto inflateBackSpec)

end Rows
end Go.Proofs.Ythceefhnmjjddaa
