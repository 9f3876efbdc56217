/-
  No cell of these rows narrows 'for every input' (looked for: loops, veiled, ifaces, maps, wideKeys, modest, calm, conditions, laid).
  DERIVED. THE GIVEN ROWS OF THIS SEAT. 6 by the template 'for every input the law returns true; each argument reads behind the call as it read before'; 0 by the template 'total and deterministic' (their statements: YtgdnibdahldekaaTotals.lean).
  GIVEN WITH THE SEED: the statements are not yours to turn. If you find one false, say at which input.
  Laid BY PROGRAM, IN A SANDBOX (cutbox-rows.mjs): the forced cells as the released guide's own fill.sh prints them over the translation d4071d04a5ef20ab… (all of the seat's roots in one cut). By AI agents, Wed Nov 11 2026. No macro, syntax, notation, axiom, sorry.
-/
import Derived.Test.YtgdnibdahldekaaChecked
import GoSem.Claim
import GoSem.ClaimJoined
import GoSem.ClaimMapViews
import Derived.JoinedTies
import Derived.KernelRfl
namespace Go.Proofs.Ytgdnibdahldekaa
/- THE CELL 'sum', in the pinned program and in every row, IS THE sha256 OF THE DUMP (.gsa) THAT YtgdnibdahldekaaProg.lean LOADS. Nothing in Lean hashes anything: it is a label: what it is worth is what the hold of that sum in a sandbox is worth. -/
noncomputable def Try.pinned : Pinned := { name := "ytgdnibdahldekaa", sum := "d4071d04a5ef20ab767d55067122f9808fd7a3377f17b846079ec09ed6d89f0c", checked := Try.checked }
namespace Rows
def none {H : Type} : Left H := { results := [], args := [] }

/-- 'hornbeamlaw10.PbufNumbers': WHATEVER THE INPUT: true; the input reads as it did. -/
def pbufNumbersSpec : ChangeSpec := { name := "pbufNumbers", fn := fun _ => fun
  | [d1, d2, d3] => { results := [.lit (.bool true)], args := [d1, d2, d3] }
  | _ => none }
def pbufNumbersRow : OpenClaim := { program := "ytgdnibdahldekaa", sum := "d4071d04a5ef20ab767d55067122f9808fd7a3377f17b846079ec09ed6d89f0c", func := "hornbeam/hornbeamlaw10.PbufNumbers", spec := "pbufNumbers", apart := false }
def PbufNumbersSaid : Prop := pbufNumbersRow.holds Try.pinned (OpenSpec.ofChange pbufNumbersSpec)

/-- ITS FALSE NEIGHBOUR: 'it returns false'. Refute it at one input. -/
def pbufNumbersWrong : ChangeSpec := { name := "pbufNumbers", fn := fun _ => fun
  | [d1, d2, d3] => { results := [.lit (.bool false)], args := [d1, d2, d3] }
  | _ => none }
def PbufNumbersWrongFalsely : Prop := pbufNumbersRow.holds Try.pinned (OpenSpec.ofChange pbufNumbersWrong)

/-- 'hornbeamlaw10.PbufLong': WHATEVER THE INPUT: true; the input reads as it did. -/
def pbufLongSpec : ChangeSpec := { name := "pbufLong", fn := fun _ => fun
  | [d1, d2] => { results := [.lit (.bool true)], args := [d1, d2] }
  | _ => none }
def pbufLongRow : OpenClaim := { program := "ytgdnibdahldekaa", sum := "d4071d04a5ef20ab767d55067122f9808fd7a3377f17b846079ec09ed6d89f0c", func := "hornbeam/hornbeamlaw10.PbufLong", spec := "pbufLong", apart := false }
def PbufLongSaid : Prop := pbufLongRow.holds Try.pinned (OpenSpec.ofChange pbufLongSpec)

/-- ITS FALSE NEIGHBOUR: 'it returns false'. Refute it at one input. -/
def pbufLongWrong : ChangeSpec := { name := "pbufLong", fn := fun _ => fun
  | [d1, d2] => { results := [.lit (.bool false)], args := [d1, d2] }
  | _ => none }
def PbufLongWrongFalsely : Prop := pbufLongRow.holds Try.pinned (OpenSpec.ofChange pbufLongWrong)

/-- 'hornbeamlaw6.UtfNames': WHATEVER THE INPUT: true; the input reads as it did. -/
def utfNamesSpec : ChangeSpec := { name := "utfNames", fn := fun _ => fun
  | [d] => { results := [.lit (.bool true)], args := [d] }
  | _ => none }
def utfNamesRow : OpenClaim := { program := "ytgdnibdahldekaa", sum := "d4071d04a5ef20ab767d55067122f9808fd7a3377f17b846079ec09ed6d89f0c", func := "hornbeam/hornbeamlaw6.UtfNames", spec := "utfNames", apart := false }
def UtfNamesSaid : Prop := utfNamesRow.holds Try.pinned (OpenSpec.ofChange utfNamesSpec)

/-- ITS FALSE NEIGHBOUR: 'it returns false'. Refute it at one input. -/
def utfNamesWrong : ChangeSpec := { name := "utfNames", fn := fun _ => fun
  | [d] => { results := [.lit (.bool false)], args := [d] }
  | _ => none }
def UtfNamesWrongFalsely : Prop := utfNamesRow.holds Try.pinned (OpenSpec.ofChange utfNamesWrong)

/-- 'hornbeamlaw10.PbufOrder': WHATEVER THE INPUT: true; the input reads as it did. -/
def pbufOrderSpec : ChangeSpec := { name := "pbufOrder", fn := fun _ => fun
  | [d1, d2] => { results := [.lit (.bool true)], args := [d1, d2] }
  | _ => none }
def pbufOrderRow : OpenClaim := { program := "ytgdnibdahldekaa", sum := "d4071d04a5ef20ab767d55067122f9808fd7a3377f17b846079ec09ed6d89f0c", func := "hornbeam/hornbeamlaw10.PbufOrder", spec := "pbufOrder", unfollowed := true, recurses := true, apart := false }
def PbufOrderSaid : Prop := pbufOrderRow.holds Try.pinned (OpenSpec.ofChange pbufOrderSpec)

/-- ITS FALSE NEIGHBOUR: 'it returns false'. Refute it at one input. -/
def pbufOrderWrong : ChangeSpec := { name := "pbufOrder", fn := fun _ => fun
  | [d1, d2] => { results := [.lit (.bool false)], args := [d1, d2] }
  | _ => none }
def PbufOrderWrongFalsely : Prop := pbufOrderRow.holds Try.pinned (OpenSpec.ofChange pbufOrderWrong)

/-- 'hornbeamlaw6.UtfBack': WHATEVER THE INPUT: true; the input reads as it did. -/
def utfBackSpec : ChangeSpec := { name := "utfBack", fn := fun _ => fun
  | [d1, d2] => { results := [.lit (.bool true)], args := [d1, d2] }
  | _ => none }
def utfBackRow : OpenClaim := { program := "ytgdnibdahldekaa", sum := "d4071d04a5ef20ab767d55067122f9808fd7a3377f17b846079ec09ed6d89f0c", func := "hornbeam/hornbeamlaw6.UtfBack", spec := "utfBack", unfollowed := true, recurses := true, apart := false }
def UtfBackSaid : Prop := utfBackRow.holds Try.pinned (OpenSpec.ofChange utfBackSpec)

/-- ITS FALSE NEIGHBOUR: 'it returns false'. Refute it at one input. -/
def utfBackWrong : ChangeSpec := { name := "utfBack", fn := fun _ => fun
  | [d1, d2] => { results := [.lit (.bool false)], args := [d1, d2] }
  | _ => none }
def UtfBackWrongFalsely : Prop := utfBackRow.holds Try.pinned (OpenSpec.ofChange utfBackWrong)

/-- 'hornbeamlaw6.UtfJoin': WHATEVER THE INPUT: true; the input reads as it did. -/
def utfJoinSpec : ChangeSpec := { name := "utfJoin", fn := fun _ => fun
  | [d1, d2] => { results := [.lit (.bool true)], args := [d1, d2] }
  | _ => none }
def utfJoinRow : OpenClaim := { program := "ytgdnibdahldekaa", sum := "d4071d04a5ef20ab767d55067122f9808fd7a3377f17b846079ec09ed6d89f0c", func := "hornbeam/hornbeamlaw6.UtfJoin", spec := "utfJoin", unfollowed := true, recurses := true, apart := false }
def UtfJoinSaid : Prop := utfJoinRow.holds Try.pinned (OpenSpec.ofChange utfJoinSpec)

/-- ITS FALSE NEIGHBOUR: 'it returns false'. Refute it at one input. -/
def utfJoinWrong : ChangeSpec := { name := "utfJoin", fn := fun _ => fun
  | [d1, d2] => { results := [.lit (.bool false)], args := [d1, d2] }
  | _ => none }
def UtfJoinWrongFalsely : Prop := utfJoinRow.holds Try.pinned (OpenSpec.ofChange utfJoinWrong)

/- THE SECOND FORM. 'bulk': how many values and letters a reading holds, each counted each time it is reached (what is shared counts as often as it is met; a slice's spare places count too). A statement '..UptoSaid' is the law's where the arguments, and the package variables that the reading takes, are together of bulk at most 1048576: NARROWER than '..Said'. Prove '..Said' where nothing that the law and all that it calls make is longer than what came in: it says more and counts as full. Else prove '..UptoSaid'. A law counts once. -/
mutual
def uptoBulk {H : Type} : DataW H → Nat
  | .lit (.string bytes) => bytes.length + 1
  | .lit _ => 1
  | .nil => 1
  | .ptr d => uptoBulk d + 1
  | .slice elems spare => uptoBulkAll elems + uptoBulkAll spare + 1
  | .agg parts => uptoBulkAll parts + 1
  | .iface _ d => uptoBulk d + 1
  | .map entries => uptoBulkEntries entries + 1
  | .held _ => 1
def uptoBulkAll {H : Type} : List (DataW H) → Nat
  | [] => 0
  | d :: r => uptoBulk d + uptoBulkAll r
def uptoBulkEntries {H : Type} : List (Lit × DataW H) → Nat
  | [] => 0
  | x :: r => uptoBulkEntry x + uptoBulkEntries r
def uptoBulkEntry {H : Type} : Lit × DataW H → Nat
  | (.string bytes, d) => bytes.length + uptoBulk d + 1
  | (_, d) => uptoBulk d + 1
 end
def uptoSmall : (H : Type) → List (DataW H) → Bool := fun _ ds => decide (uptoBulkAll ds ≤ 1048576)
def OpenSpec.upto (s : _root_.Go.ChangeSpec) : _root_.Go.OpenSpec := { _root_.Go.OpenSpec.ofChange s with cond := some uptoSmall }

/-- 'hornbeamlaw10.PbufNumbers', WHERE WHAT IT READS IS OF BULK AT MOST 1048576: true; the input reads as it did. -/
def pbufNumbersUptoRow : OpenClaim := { program := "ytgdnibdahldekaa", sum := "d4071d04a5ef20ab767d55067122f9808fd7a3377f17b846079ec09ed6d89f0c", func := "hornbeam/hornbeamlaw10.PbufNumbers", spec := "pbufNumbers", apart := false, narrowed := true }
def PbufNumbersUptoSaid : Prop := pbufNumbersUptoRow.holds Try.pinned (OpenSpec.upto pbufNumbersSpec)

/-- 'hornbeamlaw10.PbufLong', WHERE WHAT IT READS IS OF BULK AT MOST 1048576: true; the input reads as it did. -/
def pbufLongUptoRow : OpenClaim := { program := "ytgdnibdahldekaa", sum := "d4071d04a5ef20ab767d55067122f9808fd7a3377f17b846079ec09ed6d89f0c", func := "hornbeam/hornbeamlaw10.PbufLong", spec := "pbufLong", apart := false, narrowed := true }
def PbufLongUptoSaid : Prop := pbufLongUptoRow.holds Try.pinned (OpenSpec.upto pbufLongSpec)

/-- 'hornbeamlaw6.UtfNames', WHERE WHAT IT READS IS OF BULK AT MOST 1048576: true; the input reads as it did. -/
def utfNamesUptoRow : OpenClaim := { program := "ytgdnibdahldekaa", sum := "d4071d04a5ef20ab767d55067122f9808fd7a3377f17b846079ec09ed6d89f0c", func := "hornbeam/hornbeamlaw6.UtfNames", spec := "utfNames", apart := false, narrowed := true }
def UtfNamesUptoSaid : Prop := utfNamesUptoRow.holds Try.pinned (OpenSpec.upto utfNamesSpec)

/-- 'hornbeamlaw10.PbufOrder', WHERE WHAT IT READS IS OF BULK AT MOST 1048576: true; the input reads as it did. -/
def pbufOrderUptoRow : OpenClaim := { program := "ytgdnibdahldekaa", sum := "d4071d04a5ef20ab767d55067122f9808fd7a3377f17b846079ec09ed6d89f0c", func := "hornbeam/hornbeamlaw10.PbufOrder", spec := "pbufOrder", unfollowed := true, recurses := true, apart := false, narrowed := true }
def PbufOrderUptoSaid : Prop := pbufOrderUptoRow.holds Try.pinned (OpenSpec.upto pbufOrderSpec)

/-- 'hornbeamlaw6.UtfBack', WHERE WHAT IT READS IS OF BULK AT MOST 1048576: true; the input reads as it did. -/
def utfBackUptoRow : OpenClaim := { program := "ytgdnibdahldekaa", sum := "d4071d04a5ef20ab767d55067122f9808fd7a3377f17b846079ec09ed6d89f0c", func := "hornbeam/hornbeamlaw6.UtfBack", spec := "utfBack", unfollowed := true, recurses := true, apart := false, narrowed := true }
def UtfBackUptoSaid : Prop := utfBackUptoRow.holds Try.pinned (OpenSpec.upto utfBackSpec)

/-- 'hornbeamlaw6.UtfJoin', WHERE WHAT IT READS IS OF BULK AT MOST 1048576: true; the input reads as it did. -/
def utfJoinUptoRow : OpenClaim := { program := "ytgdnibdahldekaa", sum := "d4071d04a5ef20ab767d55067122f9808fd7a3377f17b846079ec09ed6d89f0c", func := "hornbeam/hornbeamlaw6.UtfJoin", spec := "utfJoin", unfollowed := true, recurses := true, apart := false, narrowed := true }
def UtfJoinUptoSaid : Prop := utfJoinUptoRow.holds Try.pinned (OpenSpec.upto utfJoinSpec)

end Rows
end Go.Proofs.Ytgdnibdahldekaa
