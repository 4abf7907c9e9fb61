/-
  No cell of these rows narrows 'for every input' (looked for: loops, veiled, ifaces, maps, wideKeys, modest, calm, conditions, laid).
  DERIVED. THE GIVEN ROWS OF THIS SEAT. 13 by the template 'for every input the law returns true; each argument reads behind the call as it read before'; 0 by the template 'total and deterministic' (their statements: YtckieogkaodkdaaTotals.lean).
  GIVEN WITH THE SEED: the statements are not yours to turn. If you find one false, say at which input.
  Laid BY PROGRAM, IN A SANDBOX (cutbox-rows.mjs): the forced cells as the released guide's own fill.sh prints them over the translation 8921a56aefea51f7… (all of the seat's roots in one cut). By AI agents, Wed Nov 11 2026. No macro, syntax, notation, axiom, sorry.
-/
import Derived.Test.YtckieogkaodkdaaChecked
import GoSem.Claim
import GoSem.ClaimJoined
import GoSem.ClaimMapViews
import Derived.JoinedTies
import Derived.KernelRfl
namespace Go.Proofs.Ytckieogkaodkdaa
/- THE CELL 'sum', in the pinned program and in every row, IS THE sha256 OF THE DUMP (.gsa) THAT YtckieogkaodkdaaProg.lean LOADS. Nothing in Lean hashes anything: it is a label: what it is worth is what the hold of that sum in a sandbox is worth. -/
noncomputable def Try.pinned : Pinned := { name := "ytckieogkaodkdaa", sum := "8921a56aefea51f7e3b931fe492eb0b8b3a675d98ca42234ff86ef008c06c85b", checked := Try.checked }
namespace Rows
def none {H : Type} : Left H := { results := [], args := [] }

/-- 'laws.FnClassesOfPairs': WHATEVER THE INPUT: true; the input reads as it did. -/
def fnClassesOfPairsSpec : ChangeSpec := { name := "fnClassesOfPairs", fn := fun _ => fun
  | [d1, d2] => { results := [.lit (.bool true)], args := [d1, d2] }
  | _ => none }
def fnClassesOfPairsRow : OpenClaim := { program := "ytckieogkaodkdaa", sum := "8921a56aefea51f7e3b931fe492eb0b8b3a675d98ca42234ff86ef008c06c85b", func := "loop.example/g01122/laws.FnClassesOfPairs", spec := "fnClassesOfPairs", unfollowed := true, recurses := true, plainKeys := false, apart := false }
def FnClassesOfPairsSaid : Prop := fnClassesOfPairsRow.holds Try.pinned (OpenSpec.ofChange fnClassesOfPairsSpec)

/-- ITS FALSE NEIGHBOUR: 'it returns false'. Refute it at one input. -/
def fnClassesOfPairsWrong : ChangeSpec := { name := "fnClassesOfPairs", fn := fun _ => fun
  | [d1, d2] => { results := [.lit (.bool false)], args := [d1, d2] }
  | _ => none }
def FnClassesOfPairsWrongFalsely : Prop := fnClassesOfPairsRow.holds Try.pinned (OpenSpec.ofChange fnClassesOfPairsWrong)

/-- 'laws.FnExactWordMatrix': WHATEVER THE INPUT: true; the input reads as it did. -/
def fnExactWordMatrixSpec : ChangeSpec := { name := "fnExactWordMatrix", fn := fun _ => fun
  | [d1, d2] => { results := [.lit (.bool true)], args := [d1, d2] }
  | _ => none }
def fnExactWordMatrixRow : OpenClaim := { program := "ytckieogkaodkdaa", sum := "8921a56aefea51f7e3b931fe492eb0b8b3a675d98ca42234ff86ef008c06c85b", func := "loop.example/g01122/laws.FnExactWordMatrix", spec := "fnExactWordMatrix", unfollowed := true, recurses := true, plainKeys := false, apart := false }
def FnExactWordMatrixSaid : Prop := fnExactWordMatrixRow.holds Try.pinned (OpenSpec.ofChange fnExactWordMatrixSpec)

/-- ITS FALSE NEIGHBOUR: 'it returns false'. Refute it at one input. -/
def fnExactWordMatrixWrong : ChangeSpec := { name := "fnExactWordMatrix", fn := fun _ => fun
  | [d1, d2] => { results := [.lit (.bool false)], args := [d1, d2] }
  | _ => none }
def FnExactWordMatrixWrongFalsely : Prop := fnExactWordMatrixRow.holds Try.pinned (OpenSpec.ofChange fnExactWordMatrixWrong)

/-- 'laws.FnMatrices': WHATEVER THE INPUT: true; the input reads as it did. -/
def fnMatricesSpec : ChangeSpec := { name := "fnMatrices", fn := fun _ => fun
  | [d1, d2] => { results := [.lit (.bool true)], args := [d1, d2] }
  | _ => none }
def fnMatricesRow : OpenClaim := { program := "ytckieogkaodkdaa", sum := "8921a56aefea51f7e3b931fe492eb0b8b3a675d98ca42234ff86ef008c06c85b", func := "loop.example/g01122/laws.FnMatrices", spec := "fnMatrices", unfollowed := true, recurses := true, plainKeys := false, apart := false }
def FnMatricesSaid : Prop := fnMatricesRow.holds Try.pinned (OpenSpec.ofChange fnMatricesSpec)

/-- ITS FALSE NEIGHBOUR: 'it returns false'. Refute it at one input. -/
def fnMatricesWrong : ChangeSpec := { name := "fnMatrices", fn := fun _ => fun
  | [d1, d2] => { results := [.lit (.bool false)], args := [d1, d2] }
  | _ => none }
def FnMatricesWrongFalsely : Prop := fnMatricesRow.holds Try.pinned (OpenSpec.ofChange fnMatricesWrong)

/-- 'laws.FnSecondTree': WHATEVER THE INPUT: true; the input reads as it did. -/
def fnSecondTreeSpec : ChangeSpec := { name := "fnSecondTree", fn := fun _ => fun
  | [d1, d2] => { results := [.lit (.bool true)], args := [d1, d2] }
  | _ => none }
def fnSecondTreeRow : OpenClaim := { program := "ytckieogkaodkdaa", sum := "8921a56aefea51f7e3b931fe492eb0b8b3a675d98ca42234ff86ef008c06c85b", func := "loop.example/g01122/laws.FnSecondTree", spec := "fnSecondTree", unfollowed := true, recurses := true, plainKeys := false, apart := false }
def FnSecondTreeSaid : Prop := fnSecondTreeRow.holds Try.pinned (OpenSpec.ofChange fnSecondTreeSpec)

/-- ITS FALSE NEIGHBOUR: 'it returns false'. Refute it at one input. -/
def fnSecondTreeWrong : ChangeSpec := { name := "fnSecondTree", fn := fun _ => fun
  | [d1, d2] => { results := [.lit (.bool false)], args := [d1, d2] }
  | _ => none }
def FnSecondTreeWrongFalsely : Prop := fnSecondTreeRow.holds Try.pinned (OpenSpec.ofChange fnSecondTreeWrong)

/-- 'laws.FnSwapsKeepTheForm': WHATEVER THE INPUT: true; the input reads as it did. -/
def fnSwapsKeepTheFormSpec : ChangeSpec := { name := "fnSwapsKeepTheForm", fn := fun _ => fun
  | [d1, d2] => { results := [.lit (.bool true)], args := [d1, d2] }
  | _ => none }
def fnSwapsKeepTheFormRow : OpenClaim := { program := "ytckieogkaodkdaa", sum := "8921a56aefea51f7e3b931fe492eb0b8b3a675d98ca42234ff86ef008c06c85b", func := "loop.example/g01122/laws.FnSwapsKeepTheForm", spec := "fnSwapsKeepTheForm", unfollowed := true, recurses := true, plainKeys := false, apart := false }
def FnSwapsKeepTheFormSaid : Prop := fnSwapsKeepTheFormRow.holds Try.pinned (OpenSpec.ofChange fnSwapsKeepTheFormSpec)

/-- ITS FALSE NEIGHBOUR: 'it returns false'. Refute it at one input. -/
def fnSwapsKeepTheFormWrong : ChangeSpec := { name := "fnSwapsKeepTheForm", fn := fun _ => fun
  | [d1, d2] => { results := [.lit (.bool false)], args := [d1, d2] }
  | _ => none }
def FnSwapsKeepTheFormWrongFalsely : Prop := fnSwapsKeepTheFormRow.holds Try.pinned (OpenSpec.ofChange fnSwapsKeepTheFormWrong)

/-- 'laws.FnForms': WHATEVER THE INPUT: true; the input reads as it did. -/
def fnFormsSpec : ChangeSpec := { name := "fnForms", fn := fun _ => fun
  | [d1, d2] => { results := [.lit (.bool true)], args := [d1, d2] }
  | _ => none }
def fnFormsRow : OpenClaim := { program := "ytckieogkaodkdaa", sum := "8921a56aefea51f7e3b931fe492eb0b8b3a675d98ca42234ff86ef008c06c85b", func := "loop.example/g01122/laws.FnForms", spec := "fnForms", unfollowed := true, recurses := true, plainKeys := false, apart := false }
def FnFormsSaid : Prop := fnFormsRow.holds Try.pinned (OpenSpec.ofChange fnFormsSpec)

/-- ITS FALSE NEIGHBOUR: 'it returns false'. Refute it at one input. -/
def fnFormsWrong : ChangeSpec := { name := "fnForms", fn := fun _ => fun
  | [d1, d2] => { results := [.lit (.bool false)], args := [d1, d2] }
  | _ => none }
def FnFormsWrongFalsely : Prop := fnFormsRow.holds Try.pinned (OpenSpec.ofChange fnFormsWrong)

/-- 'laws.FnFirstTree': WHATEVER THE INPUT: true; the input reads as it did. -/
def fnFirstTreeSpec : ChangeSpec := { name := "fnFirstTree", fn := fun _ => fun
  | [d1, d2] => { results := [.lit (.bool true)], args := [d1, d2] }
  | _ => none }
def fnFirstTreeRow : OpenClaim := { program := "ytckieogkaodkdaa", sum := "8921a56aefea51f7e3b931fe492eb0b8b3a675d98ca42234ff86ef008c06c85b", func := "loop.example/g01122/laws.FnFirstTree", spec := "fnFirstTree", unfollowed := true, recurses := true, plainKeys := false, apart := false }
def FnFirstTreeSaid : Prop := fnFirstTreeRow.holds Try.pinned (OpenSpec.ofChange fnFirstTreeSpec)

/-- ITS FALSE NEIGHBOUR: 'it returns false'. Refute it at one input. -/
def fnFirstTreeWrong : ChangeSpec := { name := "fnFirstTree", fn := fun _ => fun
  | [d1, d2] => { results := [.lit (.bool false)], args := [d1, d2] }
  | _ => none }
def FnFirstTreeWrongFalsely : Prop := fnFirstTreeRow.holds Try.pinned (OpenSpec.ofChange fnFirstTreeWrong)

/-- 'laws.FnWordsOfTriples': WHATEVER THE INPUT: true; the input reads as it did. -/
def fnWordsOfTriplesSpec : ChangeSpec := { name := "fnWordsOfTriples", fn := fun _ => fun
  | [d1, d2] => { results := [.lit (.bool true)], args := [d1, d2] }
  | _ => none }
def fnWordsOfTriplesRow : OpenClaim := { program := "ytckieogkaodkdaa", sum := "8921a56aefea51f7e3b931fe492eb0b8b3a675d98ca42234ff86ef008c06c85b", func := "loop.example/g01122/laws.FnWordsOfTriples", spec := "fnWordsOfTriples", unfollowed := true, recurses := true, plainKeys := false, apart := false }
def FnWordsOfTriplesSaid : Prop := fnWordsOfTriplesRow.holds Try.pinned (OpenSpec.ofChange fnWordsOfTriplesSpec)

/-- ITS FALSE NEIGHBOUR: 'it returns false'. Refute it at one input. -/
def fnWordsOfTriplesWrong : ChangeSpec := { name := "fnWordsOfTriples", fn := fun _ => fun
  | [d1, d2] => { results := [.lit (.bool false)], args := [d1, d2] }
  | _ => none }
def FnWordsOfTriplesWrongFalsely : Prop := fnWordsOfTriplesRow.holds Try.pinned (OpenSpec.ofChange fnWordsOfTriplesWrong)

/-- 'laws.FnReflections': WHATEVER THE INPUT: true; the input reads as it did. -/
def fnReflectionsSpec : ChangeSpec := { name := "fnReflections", fn := fun _ => fun
  | [d1, d2] => { results := [.lit (.bool true)], args := [d1, d2] }
  | _ => none }
def fnReflectionsRow : OpenClaim := { program := "ytckieogkaodkdaa", sum := "8921a56aefea51f7e3b931fe492eb0b8b3a675d98ca42234ff86ef008c06c85b", func := "loop.example/g01122/laws.FnReflections", spec := "fnReflections", unfollowed := true, recurses := true, plainKeys := false, apart := false }
def FnReflectionsSaid : Prop := fnReflectionsRow.holds Try.pinned (OpenSpec.ofChange fnReflectionsSpec)

/-- ITS FALSE NEIGHBOUR: 'it returns false'. Refute it at one input. -/
def fnReflectionsWrong : ChangeSpec := { name := "fnReflections", fn := fun _ => fun
  | [d1, d2] => { results := [.lit (.bool false)], args := [d1, d2] }
  | _ => none }
def FnReflectionsWrongFalsely : Prop := fnReflectionsRow.holds Try.pinned (OpenSpec.ofChange fnReflectionsWrong)

/-- 'laws.FnRightTriples': WHATEVER THE INPUT: true; the input reads as it did. -/
def fnRightTriplesSpec : ChangeSpec := { name := "fnRightTriples", fn := fun _ => fun
  | [d1, d2] => { results := [.lit (.bool true)], args := [d1, d2] }
  | _ => none }
def fnRightTriplesRow : OpenClaim := { program := "ytckieogkaodkdaa", sum := "8921a56aefea51f7e3b931fe492eb0b8b3a675d98ca42234ff86ef008c06c85b", func := "loop.example/g01122/laws.FnRightTriples", spec := "fnRightTriples", unfollowed := true, recurses := true, plainKeys := false, apart := false }
def FnRightTriplesSaid : Prop := fnRightTriplesRow.holds Try.pinned (OpenSpec.ofChange fnRightTriplesSpec)

/-- ITS FALSE NEIGHBOUR: 'it returns false'. Refute it at one input. -/
def fnRightTriplesWrong : ChangeSpec := { name := "fnRightTriples", fn := fun _ => fun
  | [d1, d2] => { results := [.lit (.bool false)], args := [d1, d2] }
  | _ => none }
def FnRightTriplesWrongFalsely : Prop := fnRightTriplesRow.holds Try.pinned (OpenSpec.ofChange fnRightTriplesWrong)

/-- 'laws.FnFallingQuads': WHATEVER THE INPUT: true; the input reads as it did. -/
def fnFallingQuadsSpec : ChangeSpec := { name := "fnFallingQuads", fn := fun _ => fun
  | [d1, d2] => { results := [.lit (.bool true)], args := [d1, d2] }
  | _ => none }
def fnFallingQuadsRow : OpenClaim := { program := "ytckieogkaodkdaa", sum := "8921a56aefea51f7e3b931fe492eb0b8b3a675d98ca42234ff86ef008c06c85b", func := "loop.example/g01122/laws.FnFallingQuads", spec := "fnFallingQuads", unfollowed := true, recurses := true, plainKeys := false, apart := false }
def FnFallingQuadsSaid : Prop := fnFallingQuadsRow.holds Try.pinned (OpenSpec.ofChange fnFallingQuadsSpec)

/-- ITS FALSE NEIGHBOUR: 'it returns false'. Refute it at one input. -/
def fnFallingQuadsWrong : ChangeSpec := { name := "fnFallingQuads", fn := fun _ => fun
  | [d1, d2] => { results := [.lit (.bool false)], args := [d1, d2] }
  | _ => none }
def FnFallingQuadsWrongFalsely : Prop := fnFallingQuadsRow.holds Try.pinned (OpenSpec.ofChange fnFallingQuadsWrong)

/-- 'laws.FnExactWordOfTriple': WHATEVER THE INPUT: true; the input reads as it did. -/
def fnExactWordOfTripleSpec : ChangeSpec := { name := "fnExactWordOfTriple", fn := fun _ => fun
  | [d] => { results := [.lit (.bool true)], args := [d] }
  | _ => none }
def fnExactWordOfTripleRow : OpenClaim := { program := "ytckieogkaodkdaa", sum := "8921a56aefea51f7e3b931fe492eb0b8b3a675d98ca42234ff86ef008c06c85b", func := "loop.example/g01122/laws.FnExactWordOfTriple", spec := "fnExactWordOfTriple", unfollowed := true, recurses := true, plainKeys := false, apart := false }
def FnExactWordOfTripleSaid : Prop := fnExactWordOfTripleRow.holds Try.pinned (OpenSpec.ofChange fnExactWordOfTripleSpec)

/-- ITS FALSE NEIGHBOUR: 'it returns false'. Refute it at one input. -/
def fnExactWordOfTripleWrong : ChangeSpec := { name := "fnExactWordOfTriple", fn := fun _ => fun
  | [d] => { results := [.lit (.bool false)], args := [d] }
  | _ => none }
def FnExactWordOfTripleWrongFalsely : Prop := fnExactWordOfTripleRow.holds Try.pinned (OpenSpec.ofChange fnExactWordOfTripleWrong)

/-- 'laws.FnCurvaturesOfPackings': WHATEVER THE INPUT: true; the input reads as it did. -/
def fnCurvaturesOfPackingsSpec : ChangeSpec := { name := "fnCurvaturesOfPackings", fn := fun _ => fun
  | [d1, d2] => { results := [.lit (.bool true)], args := [d1, d2] }
  | _ => none }
def fnCurvaturesOfPackingsRow : OpenClaim := { program := "ytckieogkaodkdaa", sum := "8921a56aefea51f7e3b931fe492eb0b8b3a675d98ca42234ff86ef008c06c85b", func := "loop.example/g01122/laws.FnCurvaturesOfPackings", spec := "fnCurvaturesOfPackings", unfollowed := true, recurses := true, plainKeys := false, apart := false }
def FnCurvaturesOfPackingsSaid : Prop := fnCurvaturesOfPackingsRow.holds Try.pinned (OpenSpec.ofChange fnCurvaturesOfPackingsSpec)

/-- ITS FALSE NEIGHBOUR: 'it returns false'. Refute it at one input. -/
def fnCurvaturesOfPackingsWrong : ChangeSpec := { name := "fnCurvaturesOfPackings", fn := fun _ => fun
  | [d1, d2] => { results := [.lit (.bool false)], args := [d1, d2] }
  | _ => none }
def FnCurvaturesOfPackingsWrongFalsely : Prop := fnCurvaturesOfPackingsRow.holds Try.pinned (OpenSpec.ofChange fnCurvaturesOfPackingsWrong)

/- THE SECOND FORM. 'bulk': how many values and letters a reading holds, each counted each time it is reached (what is shared counts as often as it is met; a slice's spare places count too). A statement '..UptoSaid' is the law's where the arguments, and the package variables that the reading takes, are together of bulk at most 1048576: NARROWER than '..Said'. Prove '..Said' where nothing that the law and all that it calls make is longer than what came in: it says more and counts as full. Else prove '..UptoSaid'. A law counts once. -/
mutual
def uptoBulk {H : Type} : DataW H → Nat
  | .lit (.string bytes) => bytes.length + 1
  | .lit _ => 1
  | .nil => 1
  | .ptr d => uptoBulk d + 1
  | .slice elems spare => uptoBulkAll elems + uptoBulkAll spare + 1
  | .agg parts => uptoBulkAll parts + 1
  | .iface _ d => uptoBulk d + 1
  | .map entries => uptoBulkEntries entries + 1
  | .held _ => 1
def uptoBulkAll {H : Type} : List (DataW H) → Nat
  | [] => 0
  | d :: r => uptoBulk d + uptoBulkAll r
def uptoBulkEntries {H : Type} : List (Lit × DataW H) → Nat
  | [] => 0
  | x :: r => uptoBulkEntry x + uptoBulkEntries r
def uptoBulkEntry {H : Type} : Lit × DataW H → Nat
  | (.string bytes, d) => bytes.length + uptoBulk d + 1
  | (_, d) => uptoBulk d + 1
 end
def uptoSmall : (H : Type) → List (DataW H) → Bool := fun _ ds => decide (uptoBulkAll ds ≤ 1048576)
def OpenSpec.upto (s : _root_.Go.ChangeSpec) : _root_.Go.OpenSpec := { _root_.Go.OpenSpec.ofChange s with cond := some uptoSmall }

/-- 'laws.FnClassesOfPairs', WHERE WHAT IT READS IS OF BULK AT MOST 1048576: true; the input reads as it did. -/
def fnClassesOfPairsUptoRow : OpenClaim := { program := "ytckieogkaodkdaa", sum := "8921a56aefea51f7e3b931fe492eb0b8b3a675d98ca42234ff86ef008c06c85b", func := "loop.example/g01122/laws.FnClassesOfPairs", spec := "fnClassesOfPairs", unfollowed := true, recurses := true, plainKeys := false, apart := false, narrowed := true }
def FnClassesOfPairsUptoSaid : Prop := fnClassesOfPairsUptoRow.holds Try.pinned (OpenSpec.upto fnClassesOfPairsSpec)

/-- 'laws.FnExactWordMatrix', WHERE WHAT IT READS IS OF BULK AT MOST 1048576: true; the input reads as it did. -/
def fnExactWordMatrixUptoRow : OpenClaim := { program := "ytckieogkaodkdaa", sum := "8921a56aefea51f7e3b931fe492eb0b8b3a675d98ca42234ff86ef008c06c85b", func := "loop.example/g01122/laws.FnExactWordMatrix", spec := "fnExactWordMatrix", unfollowed := true, recurses := true, plainKeys := false, apart := false, narrowed := true }
def FnExactWordMatrixUptoSaid : Prop := fnExactWordMatrixUptoRow.holds Try.pinned (OpenSpec.upto fnExactWordMatrixSpec)

/-- 'laws.FnMatrices', WHERE WHAT IT READS IS OF BULK AT MOST 1048576: true; the input reads as it did. -/
def fnMatricesUptoRow : OpenClaim := { program := "ytckieogkaodkdaa", sum := "8921a56aefea51f7e3b931fe492eb0b8b3a675d98ca42234ff86ef008c06c85b", func := "loop.example/g01122/laws.FnMatrices", spec := "fnMatrices", unfollowed := true, recurses := true, plainKeys := false, apart := false, narrowed := true }
def FnMatricesUptoSaid : Prop := fnMatricesUptoRow.holds Try.pinned (OpenSpec.upto fnMatricesSpec)

/-- 'laws.FnSecondTree', WHERE WHAT IT READS IS OF BULK AT MOST 1048576: true; the input reads as it did. -/
def fnSecondTreeUptoRow : OpenClaim := { program := "ytckieogkaodkdaa", sum := "8921a56aefea51f7e3b931fe492eb0b8b3a675d98ca42234ff86ef008c06c85b", func := "loop.example/g01122/laws.FnSecondTree", spec := "fnSecondTree", unfollowed := true, recurses := true, plainKeys := false, apart := false, narrowed := true }
def FnSecondTreeUptoSaid : Prop := fnSecondTreeUptoRow.holds Try.pinned (OpenSpec.upto fnSecondTreeSpec)

/-- 'laws.FnSwapsKeepTheForm', WHERE WHAT IT READS IS OF BULK AT MOST 1048576: true; the input reads as it did. -/
def fnSwapsKeepTheFormUptoRow : OpenClaim := { program := "ytckieogkaodkdaa", sum := "8921a56aefea51f7e3b931fe492eb0b8b3a675d98ca42234ff86ef008c06c85b", func := "loop.example/g01122/laws.FnSwapsKeepTheForm", spec := "fnSwapsKeepTheForm", unfollowed := true, recurses := true, plainKeys := false, apart := false, narrowed := true }
def FnSwapsKeepTheFormUptoSaid : Prop := fnSwapsKeepTheFormUptoRow.holds Try.pinned (OpenSpec.upto fnSwapsKeepTheFormSpec)

/-- 'laws.FnForms', WHERE WHAT IT READS IS OF BULK AT MOST 1048576: true; the input reads as it did. -/
def fnFormsUptoRow : OpenClaim := { program := "ytckieogkaodkdaa", sum := "8921a56aefea51f7e3b931fe492eb0b8b3a675d98ca42234ff86ef008c06c85b", func := "loop.example/g01122/laws.FnForms", spec := "fnForms", unfollowed := true, recurses := true, plainKeys := false, apart := false, narrowed := true }
def FnFormsUptoSaid : Prop := fnFormsUptoRow.holds Try.pinned (OpenSpec.upto fnFormsSpec)

/-- 'laws.FnFirstTree', WHERE WHAT IT READS IS OF BULK AT MOST 1048576: true; the input reads as it did. -/
def fnFirstTreeUptoRow : OpenClaim := { program := "ytckieogkaodkdaa", sum := "8921a56aefea51f7e3b931fe492eb0b8b3a675d98ca42234ff86ef008c06c85b", func := "loop.example/g01122/laws.FnFirstTree", spec := "fnFirstTree", unfollowed := true, recurses := true, plainKeys := false, apart := false, narrowed := true }
def FnFirstTreeUptoSaid : Prop := fnFirstTreeUptoRow.holds Try.pinned (OpenSpec.upto fnFirstTreeSpec)

/-- 'laws.FnWordsOfTriples', WHERE WHAT IT READS IS OF BULK AT MOST 1048576: true; the input reads as it did. -/
def fnWordsOfTriplesUptoRow : OpenClaim := { program := "ytckieogkaodkdaa", sum := "8921a56aefea51f7e3b931fe492eb0b8b3a675d98ca42234ff86ef008c06c85b", func := "loop.example/g01122/laws.FnWordsOfTriples", spec := "fnWordsOfTriples", unfollowed := true, recurses := true, plainKeys := false, apart := false, narrowed := true }
def FnWordsOfTriplesUptoSaid : Prop := fnWordsOfTriplesUptoRow.holds Try.pinned (OpenSpec.upto fnWordsOfTriplesSpec)

/-- 'laws.FnReflections', WHERE WHAT IT READS IS OF BULK AT MOST 1048576: true; the input reads as it did. -/
def fnReflectionsUptoRow : OpenClaim := { program := "ytckieogkaodkdaa", sum := "8921a56aefea51f7e3b931fe492eb0b8b3a675d98ca42234ff86ef008c06c85b", func := "loop.example/g01122/laws.FnReflections", spec := "fnReflections", unfollowed := true, recurses := true, plainKeys := false, apart := false, narrowed := true }
def FnReflectionsUptoSaid : Prop := fnReflectionsUptoRow.holds Try.pinned (OpenSpec.upto fnReflectionsSpec)

/-- 'laws.FnRightTriples', WHERE WHAT IT READS IS OF BULK AT MOST 1048576: true; the input reads as it did. -/
def fnRightTriplesUptoRow : OpenClaim := { program := "ytckieogkaodkdaa", sum := "8921a56aefea51f7e3b931fe492eb0b8b3a675d98ca42234ff86ef008c06c85b", func := "loop.example/g01122/laws.FnRightTriples", spec := "fnRightTriples", unfollowed := true, recurses := true, plainKeys := false, apart := false, narrowed := true }
def FnRightTriplesUptoSaid : Prop := fnRightTriplesUptoRow.holds Try.pinned (OpenSpec.upto fnRightTriplesSpec)

/-- 'laws.FnFallingQuads', WHERE WHAT IT READS IS OF BULK AT MOST 1048576: true; the input reads as it did. -/
def fnFallingQuadsUptoRow : OpenClaim := { program := "ytckieogkaodkdaa", sum := "8921a56aefea51f7e3b931fe492eb0b8b3a675d98ca42234ff86ef008c06c85b", func := "loop.example/g01122/laws.FnFallingQuads", spec := "fnFallingQuads", unfollowed := true, recurses := true, plainKeys := false, apart := false, narrowed := true }
def FnFallingQuadsUptoSaid : Prop := fnFallingQuadsUptoRow.holds Try.pinned (OpenSpec.upto fnFallingQuadsSpec)

/-- 'laws.FnExactWordOfTriple', WHERE WHAT IT READS IS OF BULK AT MOST 1048576: true; the input reads as it did. -/
def fnExactWordOfTripleUptoRow : OpenClaim := { program := "ytckieogkaodkdaa", sum := "8921a56aefea51f7e3b931fe492eb0b8b3a675d98ca42234ff86ef008c06c85b", func := "loop.example/g01122/laws.FnExactWordOfTriple", spec := "fnExactWordOfTriple", unfollowed := true, recurses := true, plainKeys := false, apart := false, narrowed := true }
def FnExactWordOfTripleUptoSaid : Prop := fnExactWordOfTripleUptoRow.holds Try.pinned (OpenSpec.upto fnExactWordOfTripleSpec)

/-- 'laws.FnCurvaturesOfPackings', WHERE WHAT IT READS IS OF BULK AT MOST 1048576: true; the input reads as it did. -/
def fnCurvaturesOfPackingsUptoRow : OpenClaim := { program := "ytckieogkaodkdaa", sum := "8921a56aefea51f7e3b931fe492eb0b8b3a675d98ca42234ff86ef008c06c85b", func := "loop.example/g01122/laws.FnCurvaturesOfPackings", spec := "fnCurvaturesOfPackings", unfollowed := true, recurses := true, plainKeys := false, apart := false, narrowed := true }
def FnCurvaturesOfPackingsUptoSaid : Prop := fnCurvaturesOfPackingsUptoRow.holds Try.pinned (OpenSpec.upto fnCurvaturesOfPackingsSpec)

end Rows
end Go.Proofs.Ytckieogkaodkdaa
