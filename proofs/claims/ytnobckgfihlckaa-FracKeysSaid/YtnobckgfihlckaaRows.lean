/-
  No cell of these rows narrows 'for every input' (looked for: loops, veiled, ifaces, maps, wideKeys, modest, calm, conditions, laid).
  DERIVED. THE GIVEN ROWS OF THIS SEAT. 7 by the template 'for every input the law returns true; each argument reads behind the call as it read before'; 0 by the template 'total and deterministic' (their statements: YtnobckgfihlckaaTotals.lean).
  GIVEN WITH THE SEED: the statements are not yours to turn. If you find one false, say at which input.
  Laid BY PROGRAM, IN A SANDBOX (cutbox-rows.mjs): the forced cells as the released guide's own fill.sh prints them over the translation be5c19185f310cee… (all of the seat's roots in one cut). By AI agents, Wed Nov 11 2026. No macro, syntax, notation, axiom, sorry.
-/
import Derived.Test.YtnobckgfihlckaaChecked
import GoSem.Claim
import GoSem.ClaimJoined
import GoSem.ClaimMapViews
import Derived.JoinedTies
import Derived.KernelRfl
namespace Go.Proofs.Ytnobckgfihlckaa
/- THE CELL 'sum', in the pinned program and in every row, IS THE sha256 OF THE DUMP (.gsa) THAT YtnobckgfihlckaaProg.lean LOADS. Nothing in Lean hashes anything: it is a label: what it is worth is what the hold of that sum in a sandbox is worth. -/
noncomputable def Try.pinned : Pinned := { name := "ytnobckgfihlckaa", sum := "be5c19185f310cee1295bab37b70242f1d23ecf1977dbb3dada21e3310f6400b", checked := Try.checked }
namespace Rows
def none {H : Type} : Left H := { results := [], args := [] }

/-- 'trommellaw28.FracCleans': WHATEVER THE INPUT: true; the input reads as it did. -/
def fracCleansSpec : ChangeSpec := { name := "fracCleans", fn := fun _ => fun
  | [d1, d2, d3] => { results := [.lit (.bool true)], args := [d1, d2, d3] }
  | _ => none }
def fracCleansRow : OpenClaim := { program := "ytnobckgfihlckaa", sum := "be5c19185f310cee1295bab37b70242f1d23ecf1977dbb3dada21e3310f6400b", func := "trommel/trommellaw28.FracCleans", spec := "fracCleans", inPlace := ["math.Float64bits", "math.archCeil", "math.archFloor", "math.Float64frombits", "math.archTrunc"], apart := false }
def FracCleansSaid : Prop := fracCleansRow.holds Try.pinned (OpenSpec.ofChange fracCleansSpec)

/-- ITS FALSE NEIGHBOUR: 'it returns false'. Refute it at one input. -/
def fracCleansWrong : ChangeSpec := { name := "fracCleans", fn := fun _ => fun
  | [d1, d2, d3] => { results := [.lit (.bool false)], args := [d1, d2, d3] }
  | _ => none }
def FracCleansWrongFalsely : Prop := fracCleansRow.holds Try.pinned (OpenSpec.ofChange fracCleansWrong)

/-- 'trommellaw28.FracScales': WHATEVER THE INPUT: true; the input reads as it did. -/
def fracScalesSpec : ChangeSpec := { name := "fracScales", fn := fun _ => fun
  | [d1, d2, d3, d4] => { results := [.lit (.bool true)], args := [d1, d2, d3, d4] }
  | _ => none }
def fracScalesRow : OpenClaim := { program := "ytnobckgfihlckaa", sum := "be5c19185f310cee1295bab37b70242f1d23ecf1977dbb3dada21e3310f6400b", func := "trommel/trommellaw28.FracScales", spec := "fracScales", inPlace := ["math.archCeil", "math.archFloor", "math.Float64bits", "math.Float64frombits", "math.archTrunc"], apart := false }
def FracScalesSaid : Prop := fracScalesRow.holds Try.pinned (OpenSpec.ofChange fracScalesSpec)

/-- ITS FALSE NEIGHBOUR: 'it returns false'. Refute it at one input. -/
def fracScalesWrong : ChangeSpec := { name := "fracScales", fn := fun _ => fun
  | [d1, d2, d3, d4] => { results := [.lit (.bool false)], args := [d1, d2, d3, d4] }
  | _ => none }
def FracScalesWrongFalsely : Prop := fracScalesRow.holds Try.pinned (OpenSpec.ofChange fracScalesWrong)

/-- 'trommellaw28.FracParts': WHATEVER THE INPUT: true; the input reads as it did. -/
def fracPartsSpec : ChangeSpec := { name := "fracParts", fn := fun _ => fun
  | [d1, d2, d3] => { results := [.lit (.bool true)], args := [d1, d2, d3] }
  | _ => none }
def fracPartsRow : OpenClaim := { program := "ytnobckgfihlckaa", sum := "be5c19185f310cee1295bab37b70242f1d23ecf1977dbb3dada21e3310f6400b", func := "trommel/trommellaw28.FracParts", spec := "fracParts", inPlace := ["math.Float64bits", "math.archCeil", "math.archFloor", "math.Float64frombits", "math.archTrunc"], apart := false }
def FracPartsSaid : Prop := fracPartsRow.holds Try.pinned (OpenSpec.ofChange fracPartsSpec)

/-- ITS FALSE NEIGHBOUR: 'it returns false'. Refute it at one input. -/
def fracPartsWrong : ChangeSpec := { name := "fracParts", fn := fun _ => fun
  | [d1, d2, d3] => { results := [.lit (.bool false)], args := [d1, d2, d3] }
  | _ => none }
def FracPartsWrongFalsely : Prop := fracPartsRow.holds Try.pinned (OpenSpec.ofChange fracPartsWrong)

/-- 'trommellaw26.SatOrders': WHATEVER THE INPUT: true; the input reads as it did. -/
def satOrdersSpec : ChangeSpec := { name := "satOrders", fn := fun _ => fun
  | [d1, d2, d3, d4] => { results := [.lit (.bool true)], args := [d1, d2, d3, d4] }
  | _ => none }
def satOrdersRow : OpenClaim := { program := "ytnobckgfihlckaa", sum := "be5c19185f310cee1295bab37b70242f1d23ecf1977dbb3dada21e3310f6400b", func := "trommel/trommellaw26.SatOrders", spec := "satOrders", unfollowed := true, recurses := true, named := ["math/bits.divideError", "math/bits.overflowError"], apart := false }
def SatOrdersSaid : Prop := satOrdersRow.holds Try.pinned (OpenSpec.ofChange satOrdersSpec)

/-- ITS FALSE NEIGHBOUR: 'it returns false'. Refute it at one input. -/
def satOrdersWrong : ChangeSpec := { name := "satOrders", fn := fun _ => fun
  | [d1, d2, d3, d4] => { results := [.lit (.bool false)], args := [d1, d2, d3, d4] }
  | _ => none }
def SatOrdersWrongFalsely : Prop := satOrdersRow.holds Try.pinned (OpenSpec.ofChange satOrdersWrong)

/-- 'trommellaw26.SatSums': WHATEVER THE INPUT: true; the input reads as it did. -/
def satSumsSpec : ChangeSpec := { name := "satSums", fn := fun _ => fun
  | [d1, d2] => { results := [.lit (.bool true)], args := [d1, d2] }
  | _ => none }
def satSumsRow : OpenClaim := { program := "ytnobckgfihlckaa", sum := "be5c19185f310cee1295bab37b70242f1d23ecf1977dbb3dada21e3310f6400b", func := "trommel/trommellaw26.SatSums", spec := "satSums", unfollowed := true, recurses := true, named := ["math/bits.divideError", "math/bits.overflowError"], apart := false }
def SatSumsSaid : Prop := satSumsRow.holds Try.pinned (OpenSpec.ofChange satSumsSpec)

/-- ITS FALSE NEIGHBOUR: 'it returns false'. Refute it at one input. -/
def satSumsWrong : ChangeSpec := { name := "satSums", fn := fun _ => fun
  | [d1, d2] => { results := [.lit (.bool false)], args := [d1, d2] }
  | _ => none }
def SatSumsWrongFalsely : Prop := satSumsRow.holds Try.pinned (OpenSpec.ofChange satSumsWrong)

/-- 'trommellaw28.FracKeys': WHATEVER THE INPUT: true; the input reads as it did. -/
def fracKeysSpec : ChangeSpec := { name := "fracKeys", fn := fun _ => fun
  | [d1, d2, d3] => { results := [.lit (.bool true)], args := [d1, d2, d3] }
  | _ => none }
def fracKeysRow : OpenClaim := { program := "ytnobckgfihlckaa", sum := "be5c19185f310cee1295bab37b70242f1d23ecf1977dbb3dada21e3310f6400b", func := "trommel/trommellaw28.FracKeys", spec := "fracKeys", inPlace := ["math.Float64bits", "math.archCeil", "math.archFloor", "math.Float64frombits", "math.archTrunc"], apart := false }
def FracKeysSaid : Prop := fracKeysRow.holds Try.pinned (OpenSpec.ofChange fracKeysSpec)

/-- ITS FALSE NEIGHBOUR: 'it returns false'. Refute it at one input. -/
def fracKeysWrong : ChangeSpec := { name := "fracKeys", fn := fun _ => fun
  | [d1, d2, d3] => { results := [.lit (.bool false)], args := [d1, d2, d3] }
  | _ => none }
def FracKeysWrongFalsely : Prop := fracKeysRow.holds Try.pinned (OpenSpec.ofChange fracKeysWrong)

/-- 'trommellaw26.SatParts': WHATEVER THE INPUT: true; the input reads as it did. -/
def satPartsSpec : ChangeSpec := { name := "satParts", fn := fun _ => fun
  | [d1, d2, d3] => { results := [.lit (.bool true)], args := [d1, d2, d3] }
  | _ => none }
def satPartsRow : OpenClaim := { program := "ytnobckgfihlckaa", sum := "be5c19185f310cee1295bab37b70242f1d23ecf1977dbb3dada21e3310f6400b", func := "trommel/trommellaw26.SatParts", spec := "satParts", unfollowed := true, recurses := true, named := ["math/bits.divideError", "math/bits.overflowError"], apart := false }
def SatPartsSaid : Prop := satPartsRow.holds Try.pinned (OpenSpec.ofChange satPartsSpec)

/-- ITS FALSE NEIGHBOUR: 'it returns false'. Refute it at one input. -/
def satPartsWrong : ChangeSpec := { name := "satParts", fn := fun _ => fun
  | [d1, d2, d3] => { results := [.lit (.bool false)], args := [d1, d2, d3] }
  | _ => none }
def SatPartsWrongFalsely : Prop := satPartsRow.holds Try.pinned (OpenSpec.ofChange satPartsWrong)

/- THE SECOND FORM. 'bulk': how many values and letters a reading holds, each counted each time it is reached (what is shared counts as often as it is met; a slice's spare places count too). A statement '..UptoSaid' is the law's where the arguments, and the package variables that the reading takes, are together of bulk at most 1048576: NARROWER than '..Said'. Prove '..Said' where nothing that the law and all that it calls make is longer than what came in: it says more and counts as full. Else prove '..UptoSaid'. A law counts once. -/
mutual
def uptoBulk {H : Type} : DataW H → Nat
  | .lit (.string bytes) => bytes.length + 1
  | .lit _ => 1
  | .nil => 1
  | .ptr d => uptoBulk d + 1
  | .slice elems spare => uptoBulkAll elems + uptoBulkAll spare + 1
  | .agg parts => uptoBulkAll parts + 1
  | .iface _ d => uptoBulk d + 1
  | .map entries => uptoBulkEntries entries + 1
  | .held _ => 1
def uptoBulkAll {H : Type} : List (DataW H) → Nat
  | [] => 0
  | d :: r => uptoBulk d + uptoBulkAll r
def uptoBulkEntries {H : Type} : List (Lit × DataW H) → Nat
  | [] => 0
  | x :: r => uptoBulkEntry x + uptoBulkEntries r
def uptoBulkEntry {H : Type} : Lit × DataW H → Nat
  | (.string bytes, d) => bytes.length + uptoBulk d + 1
  | (_, d) => uptoBulk d + 1
 end
def uptoSmall : (H : Type) → List (DataW H) → Bool := fun _ ds => decide (uptoBulkAll ds ≤ 1048576)
def OpenSpec.upto (s : _root_.Go.ChangeSpec) : _root_.Go.OpenSpec := { _root_.Go.OpenSpec.ofChange s with cond := some uptoSmall }

/-- 'trommellaw28.FracCleans', WHERE WHAT IT READS IS OF BULK AT MOST 1048576: true; the input reads as it did. -/
def fracCleansUptoRow : OpenClaim := { program := "ytnobckgfihlckaa", sum := "be5c19185f310cee1295bab37b70242f1d23ecf1977dbb3dada21e3310f6400b", func := "trommel/trommellaw28.FracCleans", spec := "fracCleans", inPlace := ["math.Float64bits", "math.archCeil", "math.archFloor", "math.Float64frombits", "math.archTrunc"], apart := false, narrowed := true }
def FracCleansUptoSaid : Prop := fracCleansUptoRow.holds Try.pinned (OpenSpec.upto fracCleansSpec)

/-- 'trommellaw28.FracScales', WHERE WHAT IT READS IS OF BULK AT MOST 1048576: true; the input reads as it did. -/
def fracScalesUptoRow : OpenClaim := { program := "ytnobckgfihlckaa", sum := "be5c19185f310cee1295bab37b70242f1d23ecf1977dbb3dada21e3310f6400b", func := "trommel/trommellaw28.FracScales", spec := "fracScales", inPlace := ["math.archCeil", "math.archFloor", "math.Float64bits", "math.Float64frombits", "math.archTrunc"], apart := false, narrowed := true }
def FracScalesUptoSaid : Prop := fracScalesUptoRow.holds Try.pinned (OpenSpec.upto fracScalesSpec)

/-- 'trommellaw28.FracParts', WHERE WHAT IT READS IS OF BULK AT MOST 1048576: true; the input reads as it did. -/
def fracPartsUptoRow : OpenClaim := { program := "ytnobckgfihlckaa", sum := "be5c19185f310cee1295bab37b70242f1d23ecf1977dbb3dada21e3310f6400b", func := "trommel/trommellaw28.FracParts", spec := "fracParts", inPlace := ["math.Float64bits", "math.archCeil", "math.archFloor", "math.Float64frombits", "math.archTrunc"], apart := false, narrowed := true }
def FracPartsUptoSaid : Prop := fracPartsUptoRow.holds Try.pinned (OpenSpec.upto fracPartsSpec)

/-- 'trommellaw26.SatOrders', WHERE WHAT IT READS IS OF BULK AT MOST 1048576: true; the input reads as it did. -/
def satOrdersUptoRow : OpenClaim := { program := "ytnobckgfihlckaa", sum := "be5c19185f310cee1295bab37b70242f1d23ecf1977dbb3dada21e3310f6400b", func := "trommel/trommellaw26.SatOrders", spec := "satOrders", unfollowed := true, recurses := true, named := ["math/bits.divideError", "math/bits.overflowError"], apart := false, narrowed := true }
def SatOrdersUptoSaid : Prop := satOrdersUptoRow.holds Try.pinned (OpenSpec.upto satOrdersSpec)

/-- 'trommellaw26.SatSums', WHERE WHAT IT READS IS OF BULK AT MOST 1048576: true; the input reads as it did. -/
def satSumsUptoRow : OpenClaim := { program := "ytnobckgfihlckaa", sum := "be5c19185f310cee1295bab37b70242f1d23ecf1977dbb3dada21e3310f6400b", func := "trommel/trommellaw26.SatSums", spec := "satSums", unfollowed := true, recurses := true, named := ["math/bits.divideError", "math/bits.overflowError"], apart := false, narrowed := true }
def SatSumsUptoSaid : Prop := satSumsUptoRow.holds Try.pinned (OpenSpec.upto satSumsSpec)

/-- 'trommellaw28.FracKeys', WHERE WHAT IT READS IS OF BULK AT MOST 1048576: true; the input reads as it did. -/
def fracKeysUptoRow : OpenClaim := { program := "ytnobckgfihlckaa", sum := "be5c19185f310cee1295bab37b70242f1d23ecf1977dbb3dada21e3310f6400b", func := "trommel/trommellaw28.FracKeys", spec := "fracKeys", inPlace := ["math.Float64bits", "math.archCeil", "math.archFloor", "math.Float64frombits", "math.archTrunc"], apart := false, narrowed := true }
def FracKeysUptoSaid : Prop := fracKeysUptoRow.holds Try.pinned (OpenSpec.upto fracKeysSpec)

/-- 'trommellaw26.SatParts', WHERE WHAT IT READS IS OF BULK AT MOST 1048576: true; the input reads as it did. -/
def satPartsUptoRow : OpenClaim := { program := "ytnobckgfihlckaa", sum := "be5c19185f310cee1295bab37b70242f1d23ecf1977dbb3dada21e3310f6400b", func := "trommel/trommellaw26.SatParts", spec := "satParts", unfollowed := true, recurses := true, named := ["math/bits.divideError", "math/bits.overflowError"], apart := false, narrowed := true }
def SatPartsUptoSaid : Prop := satPartsUptoRow.holds Try.pinned (OpenSpec.upto satPartsSpec)

end Rows
end Go.Proofs.Ytnobckgfihlckaa
